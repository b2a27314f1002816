/- The abstract machine's memory. (No program in sight.) One operation of the abstract machine, with memory; regions in the text's order. (No program in sight.) Regions whose order is drawn: what a step of the machine tells. (No program in sight.) Regions whose order is drawn: what all steps of the machine tell. (No program in sight.) Regions whose order is drawn: every order comes to the same. (No program in sight.) The abstract machine is sound: what it says a function comes to, it comes to. (No program in sight.) The abstract machine and the contracts of a library; its word on a call, out of the machine. (No program in sight.) Arguments without references: structs of numbers and truth values, opened; what is known of them. (No program in sight.) -/
import Derived.Test.YtbebbbclhgjcbaaAmA
import Derived.Laws.AppendOwn
import Derived.Laws.MakeOwn
import Derived.Laws.IdiomCopy
import Derived.Lib.ConvBytes
import Derived.Scope
import Derived.ChangeShapes
import Derived.WideShapes
import Derived.Below
/-! The abstract machine's memory. (No program in sight.) -/
namespace Go.Proofs.Ytbebbbclhgjcbaa.Am
set_option linter.unusedSectionVars false
variable [Base]

theorem Hp.get_nil (l : Nat) : Hp.get [] l = none := rfl
theorem Hp.get_cons (p : Nat × Blk) (t : Hp) (l : Nat) : Hp.get (p :: t) l = bif p.1 == l then some p.2 else Hp.get t l := rfl
theorem Hp.set_cons (p : Nat × Blk) (t : Hp) (l : Nat) (c : Blk) : Hp.set (p :: t) l c = bif p.1 == l then (p.1, c) :: t else p :: Hp.set t l c := rfl
theorem Hp.del_cons (p : Nat × Blk) (t : Hp) (l : Nat) : Hp.del (p :: t) l = bif p.1 == l then Hp.del t l else p :: Hp.del t l := rfl
theorem Hp.get_set (c : Blk) (l : Nat) : ∀ (m : Hp) (b : Blk), Hp.get m l = some b → ∀ k, Hp.get (Hp.set m l c) k = if k = l then some c else Hp.get m k
  | [], _, h => by cases h
  | p :: t, b, h => fun k => by
    rw [Hp.set_cons]
    cases hp : (p.1 == l)
    · rw [Hp.get_cons, hp] at h
      simp only [cond_false] at h ⊢
      rw [Hp.get_cons, Hp.get_cons, Hp.get_set c l t b h k]
      cases hk : (p.1 == k)
      · rfl
      · simp only [cond_true]
        have : k ≠ l := fun e => by subst e; rw [hp] at hk; cases hk
        rw [if_neg this]
    · simp only [cond_true]
      rw [Hp.get_cons, Hp.get_cons]
      have hp' : p.1 = l := by simpa using hp
      cases hk : (p.1 == k)
      · have : k ≠ l := fun e => by subst e; rw [hp] at hk; cases hk
        rw [if_neg this]
        rfl
      · have : k = l := by have : p.1 = k := by simpa using hk
                           omega
        rw [if_pos this]
        rfl
theorem Hp.get_del (l : Nat) : ∀ (m : Hp) (k : Nat), Hp.get (Hp.del m l) k = if k = l then none else Hp.get m k
  | [], k => by split <;> rfl
  | p :: t, k => by
    rw [Hp.del_cons]
    cases hp : (p.1 == l)
    · simp only [cond_false]
      rw [Hp.get_cons, Hp.get_cons, Hp.get_del l t k]
      cases hk : (p.1 == k)
      · rfl
      · have : k ≠ l := fun e => by subst e; rw [hp] at hk; cases hk
        simp [this]
    · simp only [cond_true]
      rw [Hp.get_del l t k, Hp.get_cons]
      have hp' : p.1 = l := by simpa using hp
      cases hk : (p.1 == k)
      · rfl
      · have : k = l := by have : p.1 = k := by simpa using hk
                           omega
        rw [if_pos this, if_pos this]

theorem HR.keep {m : Nat → Option Blk} {r : Ren} {B : Nat} {w w' : World} (h : HR m r B w) (hB : B ≤ w.heap.size) (hw : ∀ b, b < w.heap.size → w'.heap[b]? = w.heap[b]?) : HR m r B w' where
  dom := h.dom
  own l b hb ho := by
    obtain ⟨h1, h2, C, T, fz, h3, h4⟩ := h.own l b hb ho
    exact ⟨h1, h2, C, T, fz, by rw [hw _ (Array.getElem?_eq_some_iff.1 h3).1]; exact h3, h4⟩
  ro l b hb ho := by
    obtain ⟨h1, h2⟩ := h.ro l b hb ho
    refine ⟨h1, fun i x hx => ?_⟩
    obtain ⟨u, hu, hv⟩ := h2 i x hx
    have e : w'.cell? (r.at l i) = w.cell? (r.at l i) := World.cell?_of_block (hw _ (by show r.blk l < _; omega))
    exact ⟨u, by rw [e]; exact hu, hv⟩
  inj := h.inj
  nb := h.nb
  z b hb := (hw b (by have := h.nb; omega)).trans (h.z b hb)
theorem HR.mono {m : Nat → Option Blk} {r r' : Ren} (hr : r.le r') {B : Nat} {w : World} (h : HR m r B w) : HR m r' B w where
  dom l b hb := hr.n l (h.dom l b hb)
  own l b hb ho := by
    obtain ⟨h1, h2, C, T, fz, h3, h4, h5, h6⟩ := h.own l b hb ho
    have hl := h.dom l b hb
    rw [hr.blk l hl, hr.off l hl, hr.cap l hl]
    exact ⟨h1, h2, C, T, fz, h3, h4, h5, fun i x hx => by obtain ⟨u, hu, hv⟩ := h6 i x hx; exact ⟨u, hu, VS.mono hr hv⟩⟩
  ro l b hb ho := by
    obtain ⟨h1, h2⟩ := h.ro l b hb ho
    have hl := h.dom l b hb
    rw [hr.blk l hl]
    refine ⟨h1, fun i x hx => ?_⟩
    rw [hr.at hl]
    obtain ⟨u, hu, hv⟩ := h2 i x hx
    exact ⟨u, hu, VS.mono hr hv⟩
  inj l b l' b' h1 h2 h3 h4 e := by
    rw [hr.blk l (h.dom l b h1), hr.blk l' (h.dom l' b' h3)] at e
    exact h.inj l b l' b' h1 h2 h3 h4 e
  nb := h.nb
  z := h.z
/-- fewer blocks -/
theorem HR.sub {m m' : Nat → Option Blk} {r : Ren} {B : Nat} {w : World} (h : HR m r B w) (hs : ∀ l b, m' l = some b → m l = some b) : HR m' r B w :=
  ⟨fun l b hb => h.dom l b (hs l b hb), fun l b hb => h.own l b (hs l b hb), fun l b hb => h.ro l b (hs l b hb), fun l b l' b' h1 h2 h3 h4 => h.inj l b l' b' (hs l b h1) h2 (hs l' b' h3) h4, h.nb, h.z⟩

def Ren.new (r : Ren) (n blk cap : Nat) : Ren := ⟨fun l => r.ok l ∨ l = n, fun l => if l = n then blk else r.blk l, fun l => if l = n then 0 else r.off l, fun l => if l = n then cap else r.cap l⟩
theorem Ren.le_new (r : Ren) (n blk cap : Nat) (hn : ¬ r.ok n) : r.le (r.new n blk cap) :=
  have h : ∀ l, r.ok l → l ≠ n := fun _ hl e => hn (e ▸ hl)
  ⟨fun _ hl => .inl hl, fun l hl => if_neg (h l hl), fun l hl => if_neg (h l hl), fun l hl => if_neg (h l hl)⟩
theorem Ren.new_at (r : Ren) (n blk cap o : Nat) : (r.new n blk cap).at n o = ⟨blk, o, none⟩ := by simp [Ren.at, Ren.new]
theorem Inv.not (h : Heap) {r : Ren} {B : Nat} {w : World} (hi : Inv h r B w) : ¬ r.ok h.next := fun h' => Nat.lt_irrefl _ (hi.n _ h')
theorem Heap.get_alloc (h : Heap) (cs : List S) (l : Nat) : (h.alloc cs).get l = if l = h.next then some ⟨cs, true⟩ else h.get l := by
  show Hp.get ((h.next, _) :: h.m) l = _
  rw [Hp.get_cons]
  cases hk : ((h.next, (⟨cs, true⟩ : Blk)).1 == l)
  · have : l ≠ h.next := fun e => by subst e; simp at hk
    rw [if_neg this]; rfl
  · have : l = h.next := by simp at hk; exact hk.symm
    rw [if_pos this]; rfl

/-- a new block -/
theorem Inv.new {h : Heap} {r : Ren} {B : Nat} {w w1 : World} (hi : Inv h r B w) {cs : List S} {C : Array Value} {T : TypeId} {fz : Nat × Nat}
    (ho : w1.os = w.os) (ht : w1.tape = w.tape) (hout : w1.output = w.output) (hsz : w1.heap.size = w.heap.size + 1) (hold : ∀ b, b < w.heap.size → w1.heap[b]? = w.heap[b]?)
    (hnew : w1.heap[w.heap.size]? = some (.cells C T fz)) (hfz : ∀ i, i ≤ C.size → (fz.1 ≤ i && i < fz.2) = false)
    (hcs : ∀ i x, nth cs i = some x → ∃ u, C[i]? = some u ∧ VS r x u) (fl : Nat) :
    Inv (h.alloc cs) (r.new h.next w.heap.size C.size) B w1 ∧ Adv fl h r w (h.alloc cs) (r.new h.next w.heap.size C.size) w1 := by
  have hle := r.le_new h.next w.heap.size C.size (Inv.not h hi)
  have hk := (hi.hr.keep hi.b hold).mono hle
  have hb : (r.new h.next w.heap.size C.size).blk h.next = w.heap.size := by simp [Ren.new]
  have hlt : ∀ l b, h.get l = some b → b.own = true → (r.new h.next w.heap.size C.size).blk l < w.heap.size := fun l b hb ho => by
    obtain ⟨_, _, C', T', fz', h3, _⟩ := hi.hr.own l b hb ho
    rw [hle.blk l (hi.hr.dom l b hb)]
    exact (Array.getElem?_eq_some_iff.1 h3).1
  refine ⟨⟨fun l hl => ?_, by have := hi.b; omega, ?_⟩, ?_⟩
  · show l < h.next + 1
    rcases hl with hl | hl
    · have := hi.n l hl; omega
    · omega
  · refine ⟨fun l b hb => ?_, fun l b hb ho => ?_, fun l b hb ho => ?_, fun l b l' b' h1 o1 h2 o2 e => ?_, hk.nb, hk.z⟩
    · rw [Heap.get_alloc] at hb
      split at hb
      · rename_i e; exact .inr e
      · exact .inl (hi.hr.dom l b hb)
    · rw [Heap.get_alloc] at hb
      split at hb
      · rename_i e; subst e
        cases hb
        refine ⟨by rw [‹(r.new h.next w.heap.size C.size).blk h.next = w.heap.size›]; exact hi.b, by simp [Ren.new], C, T, fz, by rw [‹(r.new h.next w.heap.size C.size).blk h.next = w.heap.size›]; exact hnew, by simp [Ren.new], hfz, fun i x hx => ?_⟩
        obtain ⟨u, hu, hv⟩ := hcs i x hx
        exact ⟨u, hu, VS.mono hle hv⟩
      · exact hk.own l b hb ho
    · rw [Heap.get_alloc] at hb
      split at hb
      · cases hb; cases ho
      · exact hk.ro l b hb ho
    · rw [Heap.get_alloc] at h1 h2
      split at h1 <;> split at h2
      · omega
      · rename_i e1 e2
        have := hlt l' b' h2 o2
        rw [← e, e1, hb] at this
        omega
      · rename_i e1 e2
        have := hlt l b h1 o1
        rw [e, e2, hb] at this
        omega
      · exact hk.inj l b l' b' h1 o1 h2 o2 e
  · refine ⟨hle, Nat.le_succ _, fun l hl => ?_, ho, ht, hout, by omega, fun b hb _ => hold b hb, fun l hl _ => ?_, fun l b' hl hb => ?_, fun l b' hl hb' => ?_⟩
    · rcases hl with hl | hl
      · exact .inl hl
      · exact .inr (Nat.le_of_eq hl.symm)
    · rw [Heap.get_alloc, if_neg (by omega)]
    · rw [Heap.get_alloc, if_neg (by omega)] at hb
      exact ⟨b', hb, rfl⟩
    · rw [Heap.get_alloc] at hb'
      split at hb'
      · rename_i e
        cases hb'
        exact ⟨rfl, .inl (by rw [e, hb]; exact Nat.le_refl _)⟩
      · have := hi.n l (hi.hr.dom l b' hb'); omega

/-- what a step comes to -/
def Post (B fl : Nat) (h : Heap) (r : Ren) (w : World) (v : V) (h' : Heap) (u : Value) (w' : World) : Prop :=
  ∃ r', Inv h' r' B w' ∧ VV r' v u ∧ Adv fl h r w h' r' w'
theorem Post.same {B fl : Nat} {h : Heap} {r : Ren} {w : World} {v : V} {u : Value} (hi : Inv h r B w) (hv : VV r v u) : Post B fl h r w v h u w := ⟨r, hi, hv, Adv.refl fl hi⟩

section
variable {P : Program} {ty : Tys} {h : Heap} {r : Ren} {B fl : Nat} {w : World}

theorem read_ok (hi : Inv h r B w) {l o n : Nat} {cs : List S} (hr : h.read l o n = some cs) : ∃ us : List Value, All2 (VS r) cs us ∧ us.length = n ∧ ∀ j u, us[j]? = some u → w.cell? (r.at l (o + j)) = some u := by
  obtain ⟨b, hb, he⟩ := ob_some hr
  obtain ⟨hlen, rfl⟩ := ext_eq he
  have key : ∀ (l' : List S) (p : Nat), (∀ j x, l'[j]? = some x → nth b.cells (p + j) = some x) → ∃ us : List Value, All2 (VS r) l' us ∧ us.length = l'.length ∧ ∀ j u, us[j]? = some u → w.cell? (r.at l (p + j)) = some u := by
    intro l'
    induction l' with
    | nil => exact fun p _ => ⟨[], trivial, rfl, fun j u hu => by simp at hu⟩
    | cons x l' ih =>
      intro p hp
      obtain ⟨us, h1, h2, h3⟩ := ih (p + 1) (fun j y hy => by have := hp (j + 1) y (by simpa using hy); rwa [show p + (j + 1) = p + 1 + j by omega] at this)
      obtain ⟨u, hu, hv⟩ := hi.hr.cell hb (hp 0 x rfl)
      refine ⟨u :: us, ⟨hv, h1⟩, by simp [h2], fun j v hj => ?_⟩
      cases j with
      | zero => cases hj; exact hu
      | succ j => have := h3 j v (by simpa using hj); rwa [show p + 1 + j = p + (j + 1) by omega] at this
  obtain ⟨us, h1, h2, h3⟩ := key ((b.cells.drop o).take n) o (fun j x hx => by
    rw [nth_eq]
    rw [List.getElem?_take] at hx
    split at hx
    · simpa [List.getElem?_drop] using hx
    · cases hx)
  refine ⟨us, h1, ?_, h3⟩
  rw [h2, List.length_take, List.length_drop]
  omega
theorem load_cells (hi : Inv h r B w) {l o n : Nat} {cs : List S} (hr : h.read l o n = some cs) : ∃ us : List Value, All2 (VS r) cs us ∧ us.length = n ∧ ∀ W : World, (∀ a, W.cell? a = w.cell? a) → (loadCells (r.at l o) n).run P W = .ok us.toArray W := by
  obtain ⟨us, h1, h2, h3⟩ := read_ok hi hr
  refine ⟨us, h1, h2, fun W hW => ?_⟩
  rw [← h2]
  exact run_loadCells_list W _ us (fun j v hv => by rw [hW, Addr.add_at]; exact h3 j v hv)
theorem load_ok (hty : TyOk P ty) (hi : Inv h r B w) {t : TypeId} {T : Ty} (hT : ty t = some T) {l o : Nat} {cs : List S} (hr : h.read l o T.size = some cs) {x : A} (hm : T.mk' cs = some x) :
    ∃ z, (Instr.loadAt t (.pointer (some (r.at l o)))).run P w = .ok z w ∧ VA r x z := by
  obtain ⟨i, d, z, hi', hd, hz, h1, h2, _⟩ := hty t T hT
  have hsz : (sizeOf t).run P w = .ok T.size w := size_run hty hT
  have ha : (isAgg t).run P w = .ok T.d.agg w := by
    rw [h1]; unfold isAgg; cases d <;> simp [run_underlying hd, dOf, D.agg]
  unfold Ty.mk' at hm
  cases hg : T.d.agg <;> simp only [hg, cond_true, cond_false] at hm
  · obtain ⟨us, g1, g2, g3⟩ := read_ok hi hr
    split at hm <;> cases hm
    rename_i y
    cases us with
    | nil => exact g1.elim
    | cons u us =>
      have hc := g3 0 u rfl
      simp only [Nat.add_zero] at hc
      exact ⟨u, by simp [Instr.loadAt, Instr.sureAddr, loadVar, ha, hg, hc], g1.1⟩
  · cases hm
    obtain ⟨us, g1, g2, g3⟩ := load_cells (P := P) hi hr
    exact ⟨.agg us.toArray, by simp [Instr.loadAt, Instr.sureAddr, loadVar, ha, hg, hsz, g3 w (fun _ => rfl)], us, rfl, g1⟩

theorem all2_nth {r : Ren} {cs : List S} {C : Array Value} (h : All2 (VS r) cs C.toList) : ∀ i x, nth cs i = some x → ∃ u, C[i]? = some u ∧ VS r x u := fun i x hx => by
  obtain ⟨u, hu, hv⟩ := All2.nth h hx
  exact ⟨u, by simpa using hu, hv⟩
theorem all2_nth_app {r : Ren} {cs : List S} {us : List Value} (h : All2 (VS r) cs us) (Z : Array Value) : ∀ i x, nth cs i = some x → ∃ u, (us.toArray ++ Z)[i]? = some u ∧ VS r x u := fun i x hx => by
  obtain ⟨u, hu, hv⟩ := All2.nth h hx
  have hlt : i < us.length := (List.getElem?_eq_some_iff.1 hu).1
  exact ⟨u, by rw [Array.getElem?_append_left (by simpa using hlt)]; simpa using hu, hv⟩
/-- a new row, laid -/
theorem new_row (hi : Inv h r B w) {cs : List S} {C : Array Value} (hcs : ∀ i x, nth cs i = some x → ∃ u, C[i]? = some u ∧ VS r x u) (e : TypeId) (fl : Nat) :
    Inv (h.alloc cs) (r.new h.next w.heap.size C.size) B (w.alloc (.cells C e)) ∧ Adv fl h r w (h.alloc cs) (r.new h.next w.heap.size C.size) (w.alloc (.cells C e)) :=
  hi.new (w1 := w.alloc (.cells C e)) (fz := (0, 0)) rfl rfl rfl (by simp) (fun b hb => heap_alloc_old w _ hb) (heap_alloc_new w _) (fun i _ => by simp) hcs fl
theorem new_row_drew (hi : Inv h r B w) {cs : List S} {C : Array Value} (hcs : ∀ i x, nth cs i = some x → ∃ u, C[i]? = some u ∧ VS r x u) (e : TypeId) (fl : Nat) :
    Inv (h.alloc cs) (r.new h.next w.heap.size C.size) B (w.drew.alloc (.cells C e)) ∧ Adv fl h r w (h.alloc cs) (r.new h.next w.heap.size C.size) (w.drew.alloc (.cells C e)) :=
  hi.new (w1 := w.drew.alloc (.cells C e)) (fz := (0, 0)) rfl rfl rfl (by simp) (fun b hb => heap_alloc_old w.drew _ hb) (heap_alloc_new w.drew _) (fun i _ => by simp) hcs fl

theorem rep_succ {α : Type} (n : Nat) (l : List α) : rep (n + 1) l = l ++ rep n l := rfl
theorem rep_comm {α : Type} (l : List α) : ∀ n, rep n l ++ l = l ++ rep n l
  | 0 => by show [] ++ l = l ++ []; simp
  | n + 1 => by rw [rep_succ, List.append_assoc, rep_comm l n]
theorem zeros_rep {α : Type} [Inhabited α] (Z : Array α) (hz : 0 < Z.size) : ∀ n, (List.range (n * Z.size)).map (fun i => Z[i % Z.size]!) = rep n Z.toList
  | 0 => by simp; rfl
  | n + 1 => by
    rw [Nat.succ_mul, List.range_add, List.map_append, zeros_rep Z hz n, rep_succ, ← rep_comm]
    congr 1
    rw [List.map_map]
    apply List.ext_getElem
    · simp
    · intro i h1 h2
      simp at h1
      simp [Nat.mod_eq_of_lt h1, h1]
theorem all2_rep {α β : Type} {R : α → β → Prop} {xs : List α} {ys : List β} (h : All2 R xs ys) : ∀ n, All2 R (rep n xs) (rep n ys)
  | 0 => trivial
  | n + 1 => by rw [rep_succ, rep_succ]; exact h.app (all2_rep h n)
theorem okE_some {E : Ty} (h : okE E = true) : E.bytes ≤ 65536 ∧ 0 < E.size ∧ E.zero.length = E.size := by
  unfold okE at h
  simp only [Bool.and_eq_true, Bool.not_eq_true', beq_eq_false_iff_ne, ne_eq, beq_iff_eq] at h
  exact ⟨Nat.le_of_ble_eq_true h.1.1, Nat.pos_of_ne_zero h.1.2, h.2⟩
theorem alloc_run (hty : TyOk P ty) {t : TypeId} {T : Ty} (hT : ty t = some T) : ∃ z : Value, (∀ r, All2 (VS r) T.zero z.cells.toList) ∧ (Instr.alloc t true (.tuple #[])).run P w = .ok (.pointer (some ⟨w.heap.size, 0, none⟩)) (w.alloc (.cells z.cells t)) := by
  obtain ⟨i, d, z, hi, hd, hz, h1, h2, h3, h4, h5⟩ := hty t T hT
  exact ⟨z, h5, by simp [Instr.alloc, zeroValue, typeInfo, hi, hz, newVar, newRow]⟩
theorem ptr_new (r : Ren) (n b c : Nat) : VV (r.new n b c) (V.s (.ptr n 0)) (.pointer (some ⟨b, 0, none⟩)) := ⟨.inr rfl, by rw [Ren.new_at]⟩
theorem sl_new (r : Ren) (l b c n z q : Nat) (hz : 0 < z) (hn : n ≤ q) : VV (r.new l b c) (V.s (.sl l 0 n z (some q))) (.slice (some ⟨b, 0, none⟩) n q) := ⟨.inr rfl, hz, hn, by rw [Ren.new_at]⟩
theorem sl_new' (r : Ren) (l b n z q : Nat) (hz : 0 < z) (hn : n ≤ q) (hq : q ≤ maxLen) : VV (r.new l b (q * z)) (V.s (.sl l 0 n z none)) (.slice (some ⟨b, 0, none⟩) n q) := by
  have e : ((r.new l b (q * z)).cap l - 0) / z = q := by simp [Ren.new, Nat.mul_div_cancel _ hz]
  exact ⟨.inr rfl, ⟨hz, by rw [e]; exact hq⟩, by rw [e]; exact hn, by rw [e, Ren.new_at]⟩

theorem buildSlice_ok (hty : TyOk P ty) (hi : Inv h r B w) {t : TypeId} {E : Ty} (hE : elemOf ty t = some E) {len : Nat} {ps : List (Nat × A)} {qs : List (Nat × Value)} (hp : All2 (fun p q => p.1 = q.1 ∧ VA r p.2 q.2) ps qs)
    (hok : okE E = true) (hlen : len * E.size ≤ 65536) {cs : List S} (hf : fill (fun i => some (i * E.size, E.size)) ps (rep len E.zero) = some cs) (fl : Nat) :
    ∃ u w', (Instr.buildSlice t len qs.toArray).run P w = .ok u w' ∧ Post B fl h r w (V.s (.sl h.next 0 len E.size (some len))) (h.alloc cs) u w' := by
  obtain ⟨e, hd, hE'⟩ := elemOf_ok hty hE
  obtain ⟨i, d, z, hi', hd', hz, h1, h2, h3, h4, h5⟩ := hty e E hE'
  obtain ⟨hb, hs, hzl⟩ := okE_some hok
  have hzs : z.cells.size = E.size := by have := (h5 r).len; simp at this; omega
  have hsz := size_run (w := w) hty hE'
  have hzr : (zeroValue e).run P w = .ok z w := by simp [zeroValue, typeInfo, hi', hz]
  have hc0 : All2 (VS r) (rep len E.zero) ((Array.range (len * E.size)).map (fun j => z.cells[j % z.cells.size]!)).toList := by
    have := zeros_rep z.cells (by omega) len
    rw [hzs] at this
    simp only [Array.toList_map, Array.toList_range, hzs, this]
    exact all2_rep (h5 r) len
  obtain ⟨D, hD1, hD2⟩ := fill_ok (r := r) _ hp hc0 hf
  obtain ⟨g1, g2⟩ := new_row hi (all2_nth hD2) e fl
  refine ⟨.slice (some ⟨w.heap.size, 0, none⟩) len len, w.alloc (.cells D e), ?_, _, g1, ?_, g2⟩
  · have h24 : ¬ (len * E.size > 2 ^ 24) := by omega
    by_cases h0 : len * E.size = 0
    · have e0 : len = 0 := by rcases Nat.mul_eq_zero.1 h0 with h | h <;> omega
      subst e0
      have hz0 : ∀ f : Nat → Value, (Array.range (0 * E.size)).map f = #[] := fun f => by apply Array.ext'; simp
      rw [hz0] at hD1
      simp only [Instr.buildSlice, Sem.run_bind, run_underlying hd, Result.andThen_ok, hsz, if_neg h24, if_pos h0, Sem.run_pure, hz0, hD1]
      simp [newRow]
    · simp only [Instr.buildSlice, Sem.run_bind, run_underlying hd, Result.andThen_ok, hsz, if_neg h24, if_neg h0, hzr, Sem.run_pure, hD1]
      simp [newRow]
  · exact sl_new r _ _ _ _ _ _ hs (Nat.le_refl _)
theorem makeSlice_ok (hty : TyOk P ty) (hi : Inv h r B w) {t : TypeId} {E : Ty} (hE : elemOf ty t = some E) {n c : Nat} (hok : okE E = true) (hnc : n ≤ c) (hc : c ≤ 65536) (kl kc : IntKind) (fl : Nat) :
    ∃ u w', (Instr.makeSlice t (.int kl n) (.int kc c)).run P w = .ok u w' ∧ Post B fl h r w (V.s (.sl h.next 0 n E.size (some c))) (h.alloc (rep c E.zero)) u w' := by
  obtain ⟨e, hd, hE'⟩ := elemOf_ok hty hE
  obtain ⟨i, d, z, hi', hd', hz, h1, h2, h3, h4, h5⟩ := hty e E hE'
  obtain ⟨hb, hs, hzl⟩ := okE_some hok
  have hzs : z.cells.size = E.size := by have := (h5 r).len; simp at this; omega
  have hmul : i.bytes * c ≤ 65536 * 65536 := Nat.mul_le_mul (by omega) hc
  have hm : (i.bytes : Int) * (c : Int) ≤ 281474976710656 := by
    have : ((i.bytes * c : Nat) : Int) ≤ 281474976710656 := by omega
    rwa [Int.natCast_mul] at this
  have hr := run_make (P := P) w t e i z hd hi' hz kl kc n c (by omega) (by omega) hm (by omega)
  have hc0 : All2 (VS r) (rep c E.zero) (madeCells z.cells (c * i.size)).toList := by
    have := zeros_rep z.cells (by omega) c
    rw [hzs] at this
    unfold madeCells
    rw [← h2]
    simp only [Array.toList_map, Array.toList_range, hzs, this]
    exact all2_rep (h5 r) c
  obtain ⟨g1, g2⟩ := new_row hi (all2_nth hc0) e fl
  refine ⟨_, _, by simpa using hr, _, g1, ?_, g2⟩
  exact sl_new r _ _ _ _ _ _ hs hnc

theorem u8T_ok (hty : TyOk P ty) {t : TypeId} (h : u8T ty t = true) : ∃ e, P.underlying t = some (.slice e) ∧ P.underlying e = some (.int .u8) := by
  unfold u8T at h
  cases hE : elemOf ty t with
  | none => rw [hE] at h; cases h
  | some E =>
    rw [hE] at h
    simp only at h
    obtain ⟨e, hd, hE'⟩ := elemOf_ok hty hE
    obtain ⟨i, d, z, hi', hd', hz, h1, _⟩ := hty e E hE'
    split at h
    · rename_i hD
      rw [hD] at h1
      exact ⟨e, hd, hd'.trans (by rw [dOf_int h1.symm])⟩
    · cases h
theorem u8S_all {r : Ren} : ∀ {cs : List S} {bs : List UInt8} {us : List Value}, mapO u8S cs = some bs → All2 (VS r) cs us → ∃ ns : List Int, us = ns.map (Value.int .u8) ∧ bs = ns.map fun n => UInt8.ofNat n.toNat
  | [], bs, [], h, _ => by cases h; exact ⟨[], rfl, rfl⟩
  | [], _, _ :: _, _, h => h.elim
  | _ :: _, _, [], _, h => h.elim
  | c :: cs, bs, u :: us, h, k => by
    rw [mapO_cons] at h
    obtain ⟨b, hb, h⟩ := ob_some h
    obtain ⟨bs', hbs, h⟩ := ob_some h
    cases h
    obtain ⟨ns, rfl, rfl⟩ := u8S_all hbs k.2
    unfold u8S at hb
    split at hb <;> cases hb
    have e := k.1
    cases e
    exact ⟨_ :: ns, rfl, rfl⟩
theorem push_all : ∀ (ns : List Int) (b : ByteArray), ns.foldl (fun r n => r.push (UInt8.ofNat n.toNat)) b = ⟨(b.data.toList ++ ns.map fun n => UInt8.ofNat n.toNat).toArray⟩
  | [], b => by simp
  | n :: ns, b => by
    rw [List.foldl_cons, push_all ns]
    congr 1
    apply Array.ext'
    simp [ByteArray.push]
theorem strOf_ok (hty : TyOk P ty) (hi : Inv h r B w) {src dst : TypeId} (hs : u8T ty src = true) (hd : isStrT ty dst = true) {x : S} {u : Value} (hu : VS r x u) {v : V} {h' : Heap} (hh : strOf h x = some (v, h')) :
    h' = h ∧ ∃ z, (convert src dst u).run P w = .ok z w ∧ VV r v z := by
  obtain ⟨e, h1, h2⟩ := u8T_ok hty hs
  have h3 := isStrT_ok hty hd
  unfold strOf at hh
  split at hh
  · cases hh
    cases hu
    exact ⟨rfl, _, run_convert_bytes_nil w src e h1 h2 0 0 dst h3, rfl⟩
  · cases hh
    obtain ⟨a, c, rfl⟩ := hu
    refine ⟨rfl, .string ByteArray.empty, ?_, rfl⟩
    rw [run_convert_bytes_string w src dst e _ 0 c h1 h2 h3, run_bytesToString w a 0 c [] (by simp [loadCells, loadCellsFrom, Sem.run_pure])]
    rfl
  · rename_i l o n z c
    cases hz : (z == 1) <;> rw [hz] at hh <;> simp only [cond_true, cond_false] at hh
    · cases hh
    obtain ⟨cs, hcs, hh⟩ := ob_some hh
    obtain ⟨bs, hbs, hh⟩ := ob_some hh
    cases hh
    obtain ⟨us, g1, g2, g3⟩ := load_cells (P := P) hi hcs
    obtain ⟨ns, rfl, rfl⟩ := u8S_all hbs g1
    have : ∃ cc, u = .slice (some (r.at l o)) n cc := by
      cases c with
      | none => exact ⟨_, hu.2.2.2⟩
      | some c => exact ⟨_, hu.2.2.2⟩
    obtain ⟨cc, rfl⟩ := this
    refine ⟨rfl, _, by rw [run_convert_bytes_string w src dst e _ n cc h1 h2 h3, run_bytesToString w _ n cc ns (by have := g3 w (fun _ => rfl); simpa using this)], ?_⟩
    show Value.string _ = Value.string _
    rw [push_all]
    simp
  · cases hh
set_option linter.unusedVariables false in
theorem bytesOf_ok (hty : TyOk P ty) (hi : Inv h r B w) {src dst : TypeId} (hs : isStrT ty src = true) (hd : u8T ty dst = true) {x : S} {u : Value} (hu : VS r x u) {v : V} {h' : Heap} (hh : bytesOf h x = some (v, h')) (fl : Nat) :
    ∃ z w', (convert src dst u).run P w = .ok z w' ∧ Post B fl h r w v h' z w' := by
  cases hh

theorem isSeq_ok (hty : TyOk P ty) {t : TypeId} (h : isSeq ty t = true) : ∃ d, P.underlying t = some d ∧ (d = .string ∨ ∃ e, d = .slice e) := by
  unfold isSeq at h
  cases hT : ty t with
  | none => rw [hT] at h; cases h
  | some T =>
    rw [hT] at h
    simp only at h
    obtain ⟨i, d, z, hi, hd, hz, h1, _⟩ := hty t T hT
    refine ⟨d, hd, ?_⟩
    cases d <;> first | exact .inl rfl | exact .inr ⟨_, rfl⟩ | (simp [h1, dOf] at h)
/-- what is appended -/
structure Src (P : Program) (w : World) (size k : Nat) (u : Value) (us : List Value) : Prop where
  len : ∀ W, (Builtin.lenOf u).run P W = .ok k W
  cells : ∀ W : World, (∀ a, W.cell? a = w.cell? a) → (Builtin.firstCells size k u).run P W = .ok us.toArray W
theorem sl_val {l o n z : Nat} {c : Option Nat} {u : Value} (h : VS r (.sl l o n z c) u) : ∃ cc, u = .slice (some (r.at l o)) n cc ∧ r.ok l ∧ 0 < z ∧ n ≤ cc ∧ ((c = some cc) ∨ (c = none ∧ cc = (r.cap l - o) / z)) := by
  cases c with
  | none => exact ⟨_, h.2.2.2, h.1, h.2.1.1, h.2.2.1, .inr ⟨rfl, rfl⟩⟩
  | some c => exact ⟨_, h.2.2.2, h.1, h.2.1, h.2.2.1, .inl rfl⟩
theorem src_ok (hi : Inv h r B w) {x : S} {u : Value} (hu : VS r x u) {k : Nat} {cs : List S} (hs : srcCells h x = some (k, cs)) {size : Nat} (hl : cs.length = k * size) :
    ∃ us : List Value, All2 (VS r) cs us ∧ Src P w size k u us := by
  unfold srcCells at hs
  split at hs
  · rename_i l o n z c
    obtain ⟨cs', hcs, hs⟩ := ob_some hs
    simp only [Option.some.injEq, Prod.mk.injEq] at hs
    obtain ⟨rfl, rfl⟩ := hs
    obtain ⟨us, g1, g2, g3⟩ := load_cells (P := P) hi hcs
    obtain ⟨cc, rfl, _⟩ := sl_val hu
    have := g1.len
    refine ⟨us, g1, fun W => rfl, fun W hW => ?_⟩
    have e : n * z = n * size := by omega
    rw [e] at g3
    exact g3 W hW
  · cases hs
    obtain ⟨a, c, rfl⟩ := hu
    exact ⟨[], trivial, fun W => rfl, fun W _ => by simp [Builtin.firstCells, loadCells, loadCellsFrom]⟩
  · cases hs
    cases hu
    exact ⟨[], trivial, fun W => rfl, fun W _ => rfl⟩
  · rename_i s
    cases hs
    cases hu
    refine ⟨s.map fun b => .int .u8 b.toNat, ?_, fun W => by simp [Builtin.lenOf, ba_size], fun W _ => ?_⟩
    · clear hl
      induction s with
      | nil => trivial
      | cons b s ih => exact ⟨rfl, ih⟩
    · simp only [Builtin.firstCells, Sem.run_pure]
      congr 1
      apply Array.ext'
      simp [List.take_of_length_le]
  · cases hs

section
variable {t t2 e o : TypeId} {d2 : TypeDesc} {i : TypeInfo} {z : Value} (ht : P.underlying t = some (.slice e)) (ht2 : P.underlying t2 = some d2) (hd2 : d2 = .string ∨ ∃ e, d2 = .slice e) (hie : P.toTables.info? e = some i) (hz : i.zero = some z)
include ht ht2 hd2 hie
theorem app_in {n c k : Nat} {a : Addr} {u : Value} {us : List Value} (hs : Src P w i.size k u us) (hfit : n + k ≤ c) :
    (Builtin.append_ #[t, t2] o #[.slice (some a) n c, u]).run P w = ((storeCells (a.add (n * i.size)) us).run P w).andThen fun _ w' => .ok (.slice (some a) (n + k) c) w' := by
  have h1 := hs.len w
  have h2 := hs.cells w (fun _ => rfl)
  rcases hd2 with rfl | ⟨e', rfl⟩ <;> simp [Builtin.append_, run_underlying ht, run_underlying ht2, sizeOf, typeInfo, hie, h1, hfit, h2]
theorem app_nil0 {u : Value} {us : List Value} (hs : Src P w i.size 0 u us) : (Builtin.append_ #[t, t2] o #[.slice none 0 0, u]).run P w = .ok (.slice none 0 0) w := by
  have h1 := hs.len w
  have h2 := hs.cells w (fun _ => rfl)
  rcases hd2 with rfl | ⟨e', rfl⟩ <;> simp [Builtin.append_, run_underlying ht, run_underlying ht2, sizeOf, typeInfo, hie, h1, h2]
include hz
theorem app_grow {n c k : Nat} {a : Option Addr} {u : Value} {us olds : List Value} (hs : Src P w i.size k u us) (hgrow : c < n + k) (hn : n ≤ 65536) (hk : k ≤ 65536) (hb : i.bytes ≤ 65536)
    (hold : (Builtin.firstCells i.size n (.slice a n c)).run P w.drew = .ok olds.toArray w.drew) :
    (Builtin.append_ #[t, t2] o #[.slice a n c, u]).run P w = .ok (.slice (some ⟨w.heap.size, 0, none⟩) (n + k) (grownCap w (n + k) c e))
      (w.drew.alloc (.cells (olds.toArray ++ us.toArray ++ Builtin.zeroCells z.cells (grownCap w (n + k) c e - (n + k))) e)) := by
  have h1 := hs.len w
  have h2 := hs.cells w.drew (fun _ => rfl)
  have hnf : ¬ (n + k ≤ c) := by omega
  have hmul : (n + k) * i.bytes ≤ 131072 * 65536 := Nat.mul_le_mul (by omega) hb
  have hfit := growslice_fits (bytes := i.bytes) hgrow (by omega)
  have h48 : ¬ (281474976710656 < Builtin.nextslicecap (n + k) c * i.bytes) := by omega
  have h63 : ¬ (9223372036854775807 < ((n : Int) + (k : Int))) := by omega
  rcases hd2 with rfl | ⟨e', rfl⟩ <;>
    simp [Builtin.append_, run_underlying ht, run_underlying ht2, sizeOf, typeInfo, hie, h1, hnf, h48, h63, h2, hold, Question.forced, newRow, zeroValue, hz, grownCap] <;>
    (congr 2; apply Array.ext'; simp [List.append_assoc])
end

theorem setCell_at {b o : Nat} {v : Value} {C : Array Value} {T : TypeId} {fz : Nat × Nat} (hb : w.heap[b]? = some (.cells C T fz)) :
    (w.setCell ⟨b, o, none⟩ v).heap[b]? = some (.cells (C.setIfInBounds o v) T fz) := by
  simp [World.setCell, Array.getElem?_modify, hb]
theorem setCell_off {b o k : Nat} {v : Value} (hk : k ≠ b) : (w.setCell ⟨b, o, none⟩ v).heap[k]? = w.heap[k]? := by
  simp [World.setCell, Array.getElem?_modify, Ne.symm hk]
theorem setCells_at {b : Nat} {T : TypeId} {fz : Nat × Nat} : ∀ (vs : List Value) (o : Nat) (C : Array Value) (w : World), w.heap[b]? = some (.cells C T fz) → o + vs.length ≤ C.size →
    ∃ D : Array Value, (w.setCells b o vs).heap[b]? = some (.cells D T fz) ∧ D.toList = C.toList.take o ++ (vs ++ C.toList.drop (o + vs.length)) ∧ (∀ k, k ≠ b → (w.setCells b o vs).heap[k]? = w.heap[k]?) ∧
      (w.setCells b o vs).os = w.os ∧ (w.setCells b o vs).tape = w.tape ∧ (w.setCells b o vs).output = w.output ∧ (w.setCells b o vs).heap.size = w.heap.size
  | [], o, C, w, hb, _ => ⟨C, hb, by simp, fun _ _ => rfl, rfl, rfl, rfl, rfl⟩
  | v :: vs, o, C, w, hb, hl => by
    simp only [List.length_cons] at hl
    obtain ⟨D, h1, h2, h3, h4, h5, h6, h7⟩ := setCells_at vs (o + 1) (C.setIfInBounds o v) (w.setCell ⟨b, o, none⟩ v) (setCell_at hb) (by simp; omega)
    refine ⟨D, h1, ?_, fun k hk => (h3 k hk).trans (setCell_off hk), h4, h5, h6, h7.trans (by simp [World.setCell])⟩
    rw [h2]
    simp only [Array.toList_setIfInBounds]
    have e1 : (C.toList.set o v).take (o + 1) = C.toList.take o ++ [v] := by
      rw [List.take_succ_eq_append_getElem (by simp; omega)]
      simp [List.take_set_of_le]
    have e2 : (C.toList.set o v).drop (o + 1 + vs.length) = C.toList.drop (o + (vs.length + 1)) := by
      rw [List.drop_set_of_lt (by omega)]
      congr 1
      omega
    rw [e1, e2]
    simp

/-- a block that is written -/
theorem Inv.write (hi : Inv h r B w) {l : Nat} {b : Blk} (hb : h.get l = some b) (ho : b.own = true) (hfl : fl ≤ l) {w1 : World} {C : Array Value} {T : TypeId} {fz : Nat × Nat} {cs : List S}
    (h1 : w1.os = w.os) (h2 : w1.tape = w.tape) (h3 : w1.output = w.output) (h4 : w1.heap.size = w.heap.size) (h5 : ∀ k, k ≠ r.blk l → w1.heap[k]? = w.heap[k]?)
    (h6 : w1.heap[r.blk l]? = some (.cells C T fz)) (h7 : C.size = r.cap l) (h8 : ∀ i, i ≤ C.size → (fz.1 ≤ i && i < fz.2) = false) (h9 : ∀ i x, nth cs i = some x → ∃ u, C[i]? = some u ∧ VS r x u) :
    Inv ⟨Hp.set h.m l ⟨cs, true⟩, h.next⟩ r B w1 ∧ Adv fl h r w ⟨Hp.set h.m l ⟨cs, true⟩, h.next⟩ r w1 := by
  have hget : ∀ k, Heap.get ⟨Hp.set h.m l ⟨cs, true⟩, h.next⟩ k = if k = l then some ⟨cs, true⟩ else h.get k := fun k => Hp.get_set _ _ _ _ hb k
  have hown := hi.hr.own l b hb ho
  refine ⟨⟨hi.n, by rw [h4]; exact hi.b, ?_⟩, ?_⟩
  · refine ⟨fun k c hk => ?_, fun k c hk hc => ?_, fun k c hk hc => ?_, fun k c k' c' g1 o1 g2 o2 e => ?_, hi.hr.nb, fun k hk => (h5 k (by have := hi.hr.nb; have := hown.1; omega)).trans (hi.hr.z k hk)⟩
    · rw [hget] at hk
      split at hk
      · rename_i e; subst e; exact hi.hr.dom k b hb
      · exact hi.hr.dom k c hk
    · rw [hget] at hk
      split at hk
      · rename_i e; subst e; cases hk
        exact ⟨hown.1, hown.2.1, C, T, fz, h6, h7, h8, h9⟩
      · rename_i e
        obtain ⟨g1, g2, C', T', fz', g3, g4⟩ := hi.hr.own k c hk hc
        refine ⟨g1, g2, C', T', fz', ?_, g4⟩
        rw [h5 _ (fun e' => e (hi.hr.inj k c l b hk hc hb ho e'))]
        exact g3
    · rw [hget] at hk
      split at hk
      · cases hk; cases hc
      · obtain ⟨g1, g2⟩ := hi.hr.ro k c hk hc
        refine ⟨g1, fun i x hx => ?_⟩
        obtain ⟨u, hu, hv⟩ := g2 i x hx
        have e : w1.cell? (r.at k i) = w.cell? (r.at k i) := World.cell?_of_block (h5 _ (by show r.blk k ≠ _; have := hown.1; omega))
        exact ⟨u, by rw [e]; exact hu, hv⟩
    · rw [hget] at g1 g2
      have key : ∀ k c, (if k = l then some (⟨cs, true⟩ : Blk) else h.get k) = some c → c.own = true → ∃ c', h.get k = some c' ∧ c'.own = true := fun k c g o => by
        split at g
        · rename_i e; subst e; exact ⟨b, hb, ho⟩
        · exact ⟨c, g, o⟩
      obtain ⟨d, hd, od⟩ := key k c g1 o1
      obtain ⟨d', hd', od'⟩ := key k' c' g2 o2
      exact hi.hr.inj k d k' d' hd od hd' od' e
  · refine ⟨Ren.le.refl r, Nat.le_refl _, fun _ h => .inl h, h1, h2, h3, by omega, fun k _ hno => h5 k (fun e => hno l b hb ho hfl e.symm), fun k _ hkf => ?_, fun k c _ hk => ?_, fun k c hk hc => ?_⟩
    · rw [hget, if_neg (by omega)]
    · rw [hget] at hk
      split at hk
      · rename_i e; subst e; cases hk; exact ⟨b, hb, ho⟩
      · exact ⟨c, hk, rfl⟩
    · rw [hget] at hc
      split at hc
      · rename_i e; subst e
        have := hi.n k (hi.hr.dom k b hb); omega
      · have := hi.n k (hi.hr.dom k c hc); omega

theorem all_one : ∀ {vs : List S} {us : List Value}, All2 (VS r) vs us → ∀ v ∈ us, v.oneCell' = true
  | [], [], _ => fun v hv => by cases hv
  | [], _ :: _, h => h.elim
  | _ :: _, [], h => h.elim
  | _ :: _, _ :: _, h => fun v hv => by
    rcases List.mem_cons.1 hv with rfl | hv
    · exact VS.one h.1
    · exact all_one h.2 v hv
/-- cells laid over a block of the call's own -/
theorem lay_ok (hi : Inv h r B w) {l o : Nat} {b : Blk} (hb : h.get l = some b) (ho : b.own = true) (hfl : fl ≤ l) {vs cs' : List S} {us : List Value} (hu : All2 (VS r) vs us) (hl : lay b.cells o vs = some cs') :
    (storeCells (r.at l o) us).run P w = .ok () (w.setCells (r.blk l) o us) ∧ Inv ⟨Hp.set h.m l ⟨cs', true⟩, h.next⟩ r B (w.setCells (r.blk l) o us) ∧ Adv fl h r w ⟨Hp.set h.m l ⟨cs', true⟩, h.next⟩ r (w.setCells (r.blk l) o us) := by
  obtain ⟨g1, g2, C, T, fz, g3, g4, g5, g6⟩ := hi.hr.own l b hb ho
  obtain ⟨e1, rfl⟩ := lay_eq hl
  have hlen := hu.len
  have hbc : b.cells.length ≤ C.size := by
    rcases Nat.eq_zero_or_pos b.cells.length with h0 | h0
    · omega
    · obtain ⟨u, hu', _⟩ := g6 (b.cells.length - 1) (b.cells[b.cells.length - 1]) (by rw [nth_eq, List.getElem?_eq_getElem])
      have := (Array.getElem?_eq_some_iff.1 hu').1
      omega
  have hone := all_one hu
  rcases e1 with e1 | e1
  · subst e1
    cases us with
    | cons u us => exact hu.elim
    | nil =>
      refine ⟨rfl, ?_⟩
      refine hi.write hb ho hfl rfl rfl rfl rfl (fun _ _ => rfl) g3 g4 g5 (fun i x hx => g6 i x ?_)
      simpa using hx
  · have hfit : o + us.length ≤ C.size := by omega
    obtain ⟨D, d1, d2, d3, d4, d5, d6, d7⟩ := setCells_at us o C w g3 hfit
    have hst := run_storeCells_cells (P := P) (r.blk l) o us 0 w (fun j hj => by
        have : o + j < C.size := by omega
        simp [World.cell?, g3, this]) (fun j hj => by
        have := g5 (o + 0 + j) (by omega)
        simp only [World.frozen?, g3]
        exact this) hone
    have hat : r.at l o = ⟨r.blk l, o, none⟩ := by simp [Ren.at, g2]
    have hDs : D.size = C.size := by
      have := congrArg List.length d2
      simp at this
      omega
    refine ⟨by rw [hat]; simpa using hst, ?_⟩
    refine hi.write hb ho hfl d4 d5 d6 d7 d3 d1 (by rw [hDs, g4]) (by rw [hDs]; exact g5) (fun i x hx => ?_)
    have hi' : i < b.cells.length := by
      rw [nth_eq] at hx
      have := (List.getElem?_eq_some_iff.1 hx).1
      simp at this
      omega
    have hD : ∀ j, D[j]? = (C.toList.take o ++ (us ++ C.toList.drop (o + us.length)))[j]? := fun j => by rw [← d2, Array.getElem?_toList]
    rw [hD]
    rw [nth_eq] at hx
    by_cases c1 : i < o
    · rw [List.getElem?_append_left (by simp; omega), List.getElem?_take_of_lt c1] at hx
      rw [List.getElem?_append_left (by simp; omega), List.getElem?_take_of_lt c1]
      obtain ⟨u, hu1, hu2⟩ := g6 i x (by rw [nth_eq]; exact hx)
      exact ⟨u, by simpa using hu1, hu2⟩
    · rw [List.getElem?_append_right (by simp; omega)] at hx
      rw [List.getElem?_append_right (by simp; omega)]
      have m1 : (b.cells.take o).length = o := by simp; omega
      have m2 : (C.toList.take o).length = o := by simp; omega
      rw [m1] at hx
      rw [m2]
      by_cases c2 : i - o < vs.length
      · rw [List.getElem?_append_left c2] at hx
        rw [List.getElem?_append_left (by omega)]
        exact All2.nth hu (by rw [nth_eq]; exact hx)
      · rw [List.getElem?_append_right (by omega), List.getElem?_drop] at hx
        rw [List.getElem?_append_right (by omega), List.getElem?_drop, ← hlen]
        obtain ⟨u, hu1, hu2⟩ := g6 _ x (by rw [nth_eq]; exact hx)
        exact ⟨u, by simpa using hu1, hu2⟩

/-- a memory of which less is said -/
def Weak (r : Ren) (h1 h2 : Heap) : Prop := h2.next = h1.next ∧ ∀ l b2, h2.get l = some b2 → ∃ b1, h1.get l = some b1 ∧ b1.own = b2.own ∧ ∀ i x2, nth b2.cells i = some x2 → ∃ x1, nth b1.cells i = some x1 ∧ ∀ u, VS r x1 u → VS r x2 u
theorem Weak.inv {r : Ren} {h1 h2 : Heap} {B : Nat} {w : World} (k : Weak r h1 h2) (i : Inv h1 r B w) : Inv h2 r B w where
  n l hl := by rw [k.1]; exact i.n l hl
  b := i.b
  hr := {
    dom := fun l b hb => by obtain ⟨b1, h, _⟩ := k.2 l b hb; exact i.hr.dom l b1 h
    own := fun l b hb ho => by
      obtain ⟨b1, h, e, hc⟩ := k.2 l b hb
      obtain ⟨g1, g2, C, T, fz, g3, g4, g5, g6⟩ := i.hr.own l b1 h (e.trans ho)
      refine ⟨g1, g2, C, T, fz, g3, g4, g5, fun j x hx => ?_⟩
      obtain ⟨x1, hx1, hv⟩ := hc j x hx
      obtain ⟨u, hu, hv'⟩ := g6 j x1 hx1
      exact ⟨u, hu, hv u hv'⟩
    ro := fun l b hb ho => by
      obtain ⟨b1, h, e, hc⟩ := k.2 l b hb
      obtain ⟨g1, g2⟩ := i.hr.ro l b1 h (e.trans ho)
      refine ⟨g1, fun j x hx => ?_⟩
      obtain ⟨x1, hx1, hv⟩ := hc j x hx
      obtain ⟨u, hu, hv'⟩ := g2 j x1 hx1
      exact ⟨u, hu, hv u hv'⟩
    inj := fun l b l' b' hb ho hb' ho' he => by
      obtain ⟨c, h, e, _⟩ := k.2 l b hb
      obtain ⟨c', h', e', _⟩ := k.2 l' b' hb'
      exact i.hr.inj l c l' c' h (e.trans ho) h' (e'.trans ho') he
    nb := i.hr.nb
    z := i.hr.z }
theorem Weak.adv {fl : Nat} {r r' : Ren} {h h1 h2 : Heap} {w w' : World} (k : Weak r' h1 h2) (hk : ∀ l, l < h.next → l < fl → h2.get l = h1.get l) (a : Adv fl h r w h1 r' w') : Adv fl h r w h2 r' w' where
  le := a.le
  nn := by rw [k.1]; exact a.nn
  okn := a.okn
  os := a.os
  tape := a.tape
  output := a.output
  size := a.size
  frame := a.frame
  keep l hl hf := (hk l hl hf).trans (a.keep l hl hf)
  old l b' hl hb := by
    obtain ⟨b1, h1, e, _⟩ := k.2 l b' hb
    obtain ⟨c, hc, e'⟩ := a.old l b1 hl h1
    exact ⟨c, hc, e'.trans e⟩
  fresh l b' hl hb := by
    obtain ⟨b1, h1, e, _⟩ := k.2 l b' hb
    obtain ⟨g1, g2⟩ := a.fresh l b1 hl h1
    exact ⟨e ▸ g1, g2⟩
theorem Adv.low {fl fl' : Nat} {h h' : Heap} {r r' : Ren} {w w' : World} (hle : fl ≤ fl') (a : Adv fl' h r w h' r' w') : Adv fl h r w h' r' w' where
  le := a.le
  nn := a.nn
  okn := a.okn
  os := a.os
  tape := a.tape
  output := a.output
  size := a.size
  frame b hb hno := a.frame b hb fun l k hl ho hfl => hno l k hl ho (Nat.le_trans hle hfl)
  keep l hl hf := a.keep l hl (Nat.lt_of_lt_of_le hf hle)
  old := a.old
  fresh l b' hl hb := by
    obtain ⟨g1, g2⟩ := a.fresh l b' hl hb
    refine ⟨g1, ?_⟩
    rcases g2 with g2 | ⟨l0, b0, k1, k2, k3, k4⟩
    · exact .inl g2
    · exact .inr ⟨l0, b0, k1, k2, Nat.le_trans hle k3, k4⟩
theorem get_filter (g : Nat → Bool) (l : Nat) : ∀ m : Hp, Hp.get (m.filter fun p => g p.1) l = if g l then Hp.get m l else none
  | [] => by simp [Hp.get_nil]
  | p :: m => by
    rw [List.filter_cons, Hp.get_cons]
    cases hp : g p.1
    · simp only [Bool.false_eq_true, if_false]
      rw [get_filter g l m]
      cases e : (p.1 == l)
      · rfl
      · have e' : p.1 = l := by simpa using e
        rw [← e', hp]
        simp
    · simp only [if_true]
      rw [Hp.get_cons, get_filter g l m]
      cases e : (p.1 == l)
      · rfl
      · have e' : p.1 = l := by simpa using e
        rw [← e', hp]
        simp
theorem trim_weak (n : Nat) (rs : List A) (h : Heap) (r : Ren) : Weak r h (trimH n rs h) ∧ ∀ l, l < n → (trimH n rs h).get l = h.get l := by
  have key : ∀ l, (trimH n rs h).get l = if (Nat.blt l n || memN l (reachF h.m 1000 (rootsOf rs) [])) then h.get l else none := fun l =>
    get_filter (fun l => Nat.blt l n || memN l (reachF h.m 1000 (rootsOf rs) [])) l h.m
  refine ⟨⟨rfl, fun l b2 hb => ?_⟩, fun l hl => ?_⟩
  · rw [key] at hb
    split at hb
    · exact ⟨b2, hb, rfl, fun i x hx => ⟨x, hx, fun _ h => h⟩⟩
    · cases hb
  · have hl' : Nat.blt l n = true := by rw [Nat.blt_eq]; exact hl
    rw [key, hl']
    simp
theorem addE_ok {r : Ren} {i : Nat} : ∀ {cs out : List S} {j : Nat}, addE i j cs = some out → out.length = cs.length ∧ ∀ c x, nth cs c = some x → ∃ y, nth out c = some y ∧
    (∀ u, VS r x u → VS r y (if Base.rho i = ((j + c : Nat) : Int) then .bool true else u))
  | [], out, j, h => by cases h; exact ⟨rfl, fun c x hx => by cases hx⟩
  | a :: cs, out, j, h => by
    obtain ⟨y, hy, h⟩ := ob_some (show ob _ _ = some out from h)
    obtain ⟨q, hq, h⟩ := ob_some h
    cases h
    obtain ⟨h1, h2⟩ := addE_ok hq
    refine ⟨by simp [h1], fun c x hx => ?_⟩
    cases c with
    | zero =>
      cases hx
      refine ⟨y, rfl, fun u hu => ?_⟩
      rw [Nat.add_zero]
      split at hy <;> cases hy
      · cases hu; split <;> rfl
      · cases hu
        by_cases he : Base.rho i = (j : Int)
        · rw [if_pos he]; simp [VS, he]
        · rw [if_neg he]; simp [VS, he]
      · cases hu
        by_cases he : Base.rho i = (j : Int)
        · rw [if_pos he]; simp [VS, he]
        · rw [if_neg he]; simp [VS, he]
    | succ c =>
      obtain ⟨z, hz, hv⟩ := h2 c x hx
      refine ⟨z, hz, fun u hu => ?_⟩
      have := hv u hu
      rwa [show j + 1 + c = j + (c + 1) from by omega] at this
theorem eqNum_ok {x y : S} (h : eqNum x y = true) : x = y := by
  unfold eqNum at h
  split at h
  · simp only [Bool.and_eq_true, beq_iff_eq, decide_eq_true_eq] at h
    rw [h.1, h.2]
  · simp only [Bool.and_eq_true, beq_iff_eq] at h
    rw [h.1, Nat.eq_of_beq_eq_true h.2]
  · cases h
theorem eqNums_ok : ∀ {a b : List S}, eqNums a b = true → a = b
  | [], [], _ => rfl
  | a :: r, b :: s, h => by
    simp only [eqNums, Bool.and_eq_true] at h
    rw [eqNum_ok h.1, eqNums_ok h.2]
  | [], _ :: _, h => by cases h
  | _ :: _, [], h => by cases h
theorem findLd_mem {cs : List S} {i m : Nat} : ∀ {l : List (List S × Nat × Nat)}, findLd cs i l = some m → (cs, i, m) ∈ l
  | [], h => by cases h
  | p :: l, h => by
    have h : (bif Nat.beq p.2.1 i && eqNums p.1 cs then some p.2.2 else findLd cs i l) = some m := h
    cases hc : (Nat.beq p.2.1 i && eqNums p.1 cs) <;> rw [hc] at h <;> simp only [cond_true, cond_false] at h
    · exact List.mem_cons_of_mem _ (findLd_mem h)
    · simp only [Bool.and_eq_true] at hc
      cases h
      rw [← eqNums_ok hc.2, ← Nat.eq_of_beq_eq_true hc.1]
      exact List.mem_cons_self ..
theorem findSr_mem {cs ds : List S} {i m : Nat} : ∀ {l : List (List S × Nat × Nat × List S)}, findSr cs i m l = some ds → (cs, i, m, ds) ∈ l
  | [], h => by cases h
  | p :: l, h => by
    have h : (bif Nat.beq p.2.1 i && Nat.beq p.2.2.1 m && eqNums p.1 cs then some p.2.2.2 else findSr cs i m l) = some ds := h
    cases hc : (Nat.beq p.2.1 i && Nat.beq p.2.2.1 m && eqNums p.1 cs) <;> rw [hc] at h <;> simp only [cond_true, cond_false] at h
    · exact List.mem_cons_of_mem _ (findSr_mem h)
    · simp only [Bool.and_eq_true] at hc
      cases h
      rw [← eqNums_ok hc.2, ← Nat.eq_of_beq_eq_true hc.1.1, ← Nat.eq_of_beq_eq_true hc.1.2]
      exact List.mem_cons_self ..
theorem i64_is {r : Ren} {x : S} {a : Int} (h : x.i64 Base.rho = some a) {u : Value} : VS r x u ↔ u = .int .i64 a := by
  unfold S.i64 at h
  split at h <;> cases h <;> exact Iff.rfl
theorem storeL_ok {r : Ren} {i : Nat} {v : S} {cs out : List S} (h : storeL i v cs = some out) {u' : Value} (hv : VS r v u') : u'.cells = #[u'] ∧ u'.oneCell' = true ∧ out.length = cs.length ∧ ∀ c x, nth cs c = some x → ∃ y, nth out c = some y ∧
    (∀ u, VS r x u → VS r y (if Base.rho i = ((c : Nat) : Int) then u' else u)) := by
  unfold storeL at h
  split at h
  · cases hv
    obtain ⟨h1, h2⟩ := addE_ok (r := r) h
    exact ⟨rfl, rfl, h1, fun c x hx => by simpa using h2 c x hx⟩
  · rename_i m
    cases hv
    obtain ⟨h1, h2⟩ := Base.ok.xt.sr _ _ _ _ (findSr_mem h)
    refine ⟨rfl, rfl, h1, fun c x hx => ?_⟩
    rw [nth_eq] at hx
    have hc : c < out.length := by have := (List.getElem?_eq_some_iff.1 hx).1; omega
    obtain ⟨a, e1, e2⟩ := h2 c x out[c] hx (List.getElem?_eq_getElem hc)
    refine ⟨out[c], by rw [nth_eq]; exact List.getElem?_eq_getElem hc, fun u hu => ?_⟩
    rw [i64_is e2]
    have := (i64_is e1).1 hu
    split
    · rfl
    · exact this
  · cases h
theorem storeX_ok {P : Program} {ty : Tys} (hi : Inv h r B w) {t : TypeId} {x v : S} {u u' : Value} (hu : VS r x u) (hv : VS r v u') {q : V} {h' : Heap} (hh : storeX ty h fl t x v = some (q, h')) :
    ∃ T l k w', ty t = some T ∧ T.size = 1 ∧ u = .pointer (some (r.at l k)) ∧ u'.cells = #[u'] ∧ (storeCells (r.at l k) [u']).run P w = .ok () w' ∧ q = undef ∧ Inv h' r B w' ∧ Adv fl h r w h' r w' := by
  unfold storeX at hh
  split at hh
  · rename_i l o n i
    obtain ⟨T, hT, hh⟩ := ob_some hh
    cases hc : (T.size == 1 && Nat.ble fl l) <;> rw [hc] at hh <;> simp only [cond_true, cond_false] at hh
    · cases hh
    simp only [Bool.and_eq_true, beq_iff_eq] at hc
    obtain ⟨b, hb, hh⟩ := ob_some hh
    cases hbo : b.own <;> rw [hbo] at hh <;> simp only [cond_true, cond_false] at hh
    · cases hh
    obtain ⟨cs, hcs, hh⟩ := ob_some hh
    obtain ⟨ds, hds, hh⟩ := ob_some hh
    obtain ⟨es, hes, hh⟩ := ob_some hh
    cases hh
    obtain ⟨hl, k1, k2, rfl⟩ := hu
    obtain ⟨hu1, hu2, a1, a2⟩ := storeL_ok (r := r) hds hv
    obtain ⟨m, hm⟩ : ∃ m : Nat, Base.rho i = m := ⟨_, (Int.toNat_of_nonneg k1).symm⟩
    have hmn : m < n := by omega
    rw [hm, Int.toNat_natCast]
    obtain ⟨g1, g2, C, T', fz, g3, g4, g5, g6⟩ := hi.hr.own l b hb hbo
    obtain ⟨e1, hcs'⟩ := ext_eq hcs
    have e1 : o + n ≤ b.cells.length := by omega
    have hcl : cs.length = n := by rw [hcs']; simp; omega
    obtain ⟨_, rfl⟩ := lay_eq hes
    have hbc : b.cells.length ≤ C.size := by
      obtain ⟨u, hu', _⟩ := g6 (b.cells.length - 1) (b.cells[b.cells.length - 1]'(by omega)) (by rw [nth_eq, List.getElem?_eq_getElem])
      have := (Array.getElem?_eq_some_iff.1 hu').1
      omega
    have hfit : o + m + [u'].length ≤ C.size := by simp; omega
    obtain ⟨D, d1, d2, d3, d4, d5, d6, d7⟩ := setCells_at [u'] (o + m) C w g3 hfit
    have hst := run_storeCells_cells (P := P) (r.blk l) (o + m) [u'] 0 w (fun j hj => by
        have hj : j < 1 := hj
        have : o + m + j < C.size := by simp at hfit; omega
        simp [World.cell?, g3, this]) (fun j hj => by
        have := g5 (o + m + 0 + j) (by simp at hfit hj; omega)
        simp only [World.frozen?, g3]
        exact this) (by intro v hv; simp at hv; subst hv; exact hu2)
    have hat : r.at l (o + m) = ⟨r.blk l, o + m, none⟩ := by simp [Ren.at, g2]
    have hD : ∀ j, D[j]? = if j = o + m then some u' else C[j]? := fun j => by
      rw [← Array.getElem?_toList, d2]
      simp at hfit
      by_cases c : j = o + m
      · subst c
        rw [if_pos rfl, List.getElem?_append_right (by simp; omega)]
        simp
        rw [Nat.min_eq_left (by omega), Nat.sub_self]
        rfl
      · rw [if_neg c]
        by_cases c1 : j < o + m
        · rw [List.getElem?_append_left (by simp; omega), List.getElem?_take_of_lt c1]
          simp
        · rw [List.getElem?_append_right (by simp; omega)]
          have : (C.toList.take (o + m)).length = o + m := by simp; omega
          rw [this]
          obtain ⟨d, hd⟩ : ∃ d, j - (o + m) = d + 1 := ⟨j - (o + m) - 1, by omega⟩
          rw [hd]
          simp
          congr 1
          omega
    have hDs : D.size = C.size := by
      have := congrArg List.length d2
      simp at this hfit
      omega
    refine ⟨T, l, o + m, _, hT, hc.1, rfl, hu1, by rw [hat]; simpa using hst, rfl, ?_⟩
    refine hi.write hb hbo (Nat.le_of_ble_eq_true hc.2) d4 d5 d6 d7 d3 d1 (by rw [hDs, g4]) (by rw [hDs]; exact g5) (fun j x hx => ?_)
    rw [hD]
    rw [nth_eq] at hx
    by_cases c1 : j < o
    · rw [List.getElem?_append_left (by simp; omega), List.getElem?_take_of_lt c1] at hx
      rw [if_neg (by omega)]
      exact g6 j x (by rw [nth_eq]; exact hx)
    · rw [List.getElem?_append_right (by simp; omega)] at hx
      have m1 : (b.cells.take o).length = o := by simp; omega
      rw [m1] at hx
      by_cases c2 : j - o < ds.length
      · rw [List.getElem?_append_left c2] at hx
        have hlt : j - o < cs.length := by omega
        obtain ⟨y, hy, hv⟩ := a2 (j - o) cs[j - o] (by rw [nth_eq, List.getElem?_eq_getElem])
        rw [nth_eq, hx] at hy
        cases hy
        have hb' : b.cells[j]? = some cs[j - o] := by
          have h1 : cs[j - o]? = b.cells[j]? := by
            have h2 := congrArg (fun l : List S => l[j - o]?) hcs'
            simp only [List.getElem?_take_of_lt (show j - o < n by omega), List.getElem?_drop, show o + (j - o) = j from by omega] at h2
            exact h2
          rw [← h1]
          exact List.getElem?_eq_getElem hlt
        obtain ⟨u, hu1, hu2⟩ := g6 j _ (by rw [nth_eq]; exact hb')
        have := hv u hu2
        rw [hm] at this
        by_cases c3 : j = o + m
        · rw [if_pos c3]
          rw [if_pos (by omega)] at this
          exact ⟨_, rfl, this⟩
        · rw [if_neg c3]
          rw [if_neg (by omega)] at this
          exact ⟨u, hu1, this⟩
      · rw [List.getElem?_append_right (by omega), List.getElem?_drop] at hx
        rw [if_neg (by omega)]
        refine g6 j x ?_
        rw [nth_eq, ← hx]
        congr 1
        omega
  · cases hh

theorem okApp_some {E : Ty} {k : Nat} {cs : List S} (h : okApp E k cs = true) : okE E = true ∧ k ≤ 65536 ∧ cs.length = k * E.size := by
  unfold okApp at h
  simp only [Bool.and_eq_true, beq_iff_eq] at h
  exact ⟨h.1.1, Nat.le_of_ble_eq_true h.1.2, h.2⟩
theorem zeroCells_size (Z : Array Value) (n : Nat) : (Builtin.zeroCells Z n).size = n * Z.size := by simp [Builtin.zeroCells]
theorem grow_ok (hty : TyOk P ty) (hi : Inv h r B w) {t t2 : TypeId} {E : Ty} (hE : elemOf ty t = some E) (hs2 : isSeq ty t2 = true) {n c k : Nat} {a : Option Addr} {u : Value} {old cs : List S} {olds us : List Value} (hk : okApp E k cs = true)
    (hsrc : Src P w E.size k u us) (hus : All2 (VS r) cs us) (holds : All2 (VS r) old olds) (hol : old.length = n * E.size) (hgrow : c < n + k) (hn : n ≤ 65536)
    (hold : (Builtin.firstCells E.size n (.slice a n c)).run P w.drew = .ok olds.toArray w.drew) (o : TypeId) (fl : Nat) :
    ∃ v w', (Builtin.append_ #[t, t2] o #[.slice a n c, u]).run P w = .ok v w' ∧ Post B fl h r w (V.s (.sl h.next 0 (n + k) E.size none)) (h.alloc (old ++ cs)) v w' := by
  obtain ⟨e, hd, hE'⟩ := elemOf_ok hty hE
  obtain ⟨d2, hd2, hd2'⟩ := isSeq_ok hty hs2
  obtain ⟨i, d, z, hi', hd', hz, h1, h2, h3, h4, h5⟩ := hty e E hE'
  obtain ⟨hok, hk1, hk2⟩ := okApp_some hk
  obtain ⟨hb, hs, hzl⟩ := okE_some hok
  have hzs : z.cells.size = E.size := by have := (h5 r).len; simp at this; omega
  rw [h2] at hsrc hold
  have hrun := app_grow (P := P) (w := w) (o := o) hd hd2 hd2' hi' hz hsrc hgrow hn hk1 (by omega) hold
  have hcap := grownCap_ge w (n + k) c e
  have hlen1 := holds.len
  have hlen2 := hus.len
  have hcs := all2_nth_app (holds.app hus) (Builtin.zeroCells z.cells (grownCap w (n + k) c e - (n + k)))
  have e0 : (olds ++ us).toArray = olds.toArray ++ us.toArray := by simp
  rw [e0] at hcs
  obtain ⟨g1, g2⟩ := new_row_drew hi hcs e fl
  have hsize : (olds.toArray ++ us.toArray ++ Builtin.zeroCells z.cells (grownCap w (n + k) c e - (n + k))).size = grownCap w (n + k) c e * E.size := by
    simp only [Array.size_append, List.size_toArray, zeroCells_size, hzs]
    rw [← hlen1, ← hlen2, hol, hk2, ← Nat.add_mul, ← Nat.add_mul]
    congr 1
    omega
  refine ⟨_, _, hrun, _, g1, ?_, g2⟩
  rw [hsize]
  exact sl_new' r h.next w.heap.size (n + k) E.size _ hs hcap (grownCap_le_maxLen _ _ _ _ (by simp only [maxLen]; omega))

theorem appQ_ok (hty : TyOk P ty) (hi : Inv h r B w) {t t2 : TypeId} {E : Ty} (hE : elemOf ty t = some E) (hs2 : isSeq ty t2 = true) {s x : S} {us ux : Value} (hus : VS r s us) (hux : VS r x ux) {k : Nat} {cs : List S} (hsrc : srcCells h x = some (k, cs))
    (hk : okApp E k cs = true) {v : V} {h' : Heap} (hq : appQ h E k cs s = some (v, h')) (o : TypeId) (fl : Nat) : ∃ z w', (Builtin.append_ #[t, t2] o #[us, ux]).run P w = .ok z w' ∧ Post B fl h r w v h' z w' := by
  obtain ⟨e, hd, hE'⟩ := elemOf_ok hty hE
  obtain ⟨d2, hd2, hd2'⟩ := isSeq_ok hty hs2
  obtain ⟨i, d, z, hi', hd', hz, h1, h2, h3, h4, h5⟩ := hty e E hE'
  obtain ⟨hok, hk1, hk2⟩ := okApp_some hk
  obtain ⟨hb, hs, hzl⟩ := okE_some hok
  obtain ⟨news, g1, g2⟩ := src_ok (P := P) hi hux hsrc hk2
  have same : ∀ (l o' n q : Nat) (c : Option Nat), VS r (.sl l o' n q c) us → k = 0 → ∃ z w', (Builtin.append_ #[t, t2] o #[us, ux]).run P w = .ok z w' ∧ Post B fl h r w (V.s (.sl l o' n q c)) h z w' := by
    intro l o' n q c hv h0
    subst h0
    have hv0 := hv
    obtain ⟨cc, rfl, hl, hz0, hn, _⟩ := sl_val hv
    have hnil : news = [] := by
      have := g1.len
      rw [hk2] at this
      exact List.eq_nil_of_length_eq_zero (by omega)
    subst hnil
    have hr := app_in (P := P) (w := w) (o := o) (a := r.at l o') (c := cc) hd hd2 hd2' hi' (h2 ▸ g2) (n := n) (by omega)
    exact ⟨_, _, by rw [hr]; simp [storeCells], Post.same hi hv0⟩
  unfold appQ at hq
  split at hq
  · cases hus
    cases h0 : (k == 0) <;> rw [h0] at hq <;> simp only [cond_true, cond_false] at hq
    · have hk0 : k ≠ 0 := by simpa using h0
      cases hq
      have := grow_ok hty hi hE hs2 (a := none) (n := 0) (c := 0) (old := []) (olds := []) hk g2 g1 trivial (by simp) (by omega) (by omega) rfl o fl
      simpa using this
    · cases hq
      have hk0 : k = 0 := by simpa using h0
      subst hk0
      exact ⟨_, _, app_nil0 hd hd2 hd2' hi' (h2 ▸ g2), Post.same hi rfl⟩
  · rename_i l o' n q c
    cases hc : (q == E.size && Nat.ble n 65536) <;> rw [hc] at hq <;> simp only [cond_true, cond_false] at hq
    · cases hq
    simp only [Bool.and_eq_true, beq_iff_eq] at hc
    obtain ⟨rfl, hn⟩ := hc
    have hn := Nat.le_of_ble_eq_true hn
    cases h0 : (k == 0) <;> rw [h0] at hq <;> simp only [cond_true, cond_false] at hq
    · cases hf : Nat.ble (n + k) c <;> rw [hf] at hq <;> simp only [cond_true, cond_false] at hq
      · obtain ⟨old, hold, hq⟩ := ob_some hq
        cases hq
        obtain ⟨olds, o1, o2, o3⟩ := load_cells (P := P) hi hold
        obtain ⟨cc, rfl, hl, hz0, hn', hcc⟩ := sl_val hus
        have hcc : cc = c := by rcases hcc with e | ⟨e, _⟩ <;> cases e; rfl
        subst hcc
        have hlt : cc < n + k := by
          rcases Nat.lt_or_ge cc (n + k) with h | h
          · exact h
          · rw [Nat.ble_eq_true_of_le h] at hf; cases hf
        exact grow_ok hty hi hE hs2 (a := some (r.at l o')) hk g2 g1 o1 (by have := o1.len; omega) hlt hn (o3 w.drew (fun _ => rfl)) o fl
      · cases hq
    · cases hq
      exact same _ _ _ _ _ hus (by simpa using h0)
  · rename_i l o' n q
    cases hc : (q == E.size && Nat.ble n 65536 && k == 0) <;> rw [hc] at hq <;> simp only [cond_true, cond_false] at hq
    · cases hq
    cases hq
    simp only [Bool.and_eq_true, beq_iff_eq] at hc
    exact same _ _ _ _ _ hus hc.2
  · cases hq

theorem clear_ok (hty : TyOk P ty) (hi : Inv h r B w) {t : TypeId} {E : Ty} (hE : elemOf ty t = some E) {s : S} {us : Value} (hus : VS r s us) {v : V} {h' : Heap} (hq : clearS h fl E s = some (v, h')) (o : TypeId) : ∃ w', (Builtin.clear_ #[t] o #[us]).run P w = .ok Go.undef w' ∧ Post B fl h r w v h' Go.undef w' := by
  obtain ⟨e, hd, hE'⟩ := elemOf_ok hty hE
  obtain ⟨i, d, z, hi', hd', hz, h1, h2, h3, h4, h5⟩ := hty e E hE'
  unfold clearS at hq
  split at hq
  · cases hus; cases hq
    exact ⟨w, by simp [Builtin.clear_, run_underlying hd, Go.undef], Post.same hi VS.undef⟩
  · obtain ⟨a, c, rfl⟩ := hus
    cases hq
    exact ⟨w, by simp [Builtin.clear_, run_underlying hd, Go.undef], Post.same hi VS.undef⟩
  · rename_i l o' n q c
    obtain ⟨cc, rfl, hl, hz0, hn', hcc⟩ := sl_val hus
    cases h0 : (n == 0) <;> rw [h0] at hq <;> simp only [cond_true, cond_false] at hq
    · cases hc : (q == E.size && okE E && Nat.ble fl l) <;> rw [hc] at hq <;> simp only [cond_true, cond_false] at hq
      · cases hq
      simp only [Bool.and_eq_true, beq_iff_eq] at hc
      obtain ⟨⟨rfl, hok⟩, hfl⟩ := hc
      obtain ⟨hb, hs, hzl⟩ := okE_some hok
      have hzs : z.cells.size = E.size := by have := (h5 r).len; simp at this; omega
      obtain ⟨b, hb', hq⟩ := ob_some hq
      cases ho : b.own <;> rw [ho] at hq <;> simp only [cond_true, cond_false] at hq
      · cases hq
      obtain ⟨cs', hl', hq⟩ := ob_some hq
      cases hq
      have hc0 : All2 (VS r) (rep n E.zero) (Builtin.zeroCells z.cells n).toList := by
        have := zeros_rep z.cells (by omega) n
        unfold Builtin.zeroCells
        simp only [Array.toList_map, Array.toList_range, this]
        exact all2_rep (h5 r) n
      obtain ⟨r1, r2, r3⟩ := lay_ok (P := P) (fl := fl) hi hb' ho (Nat.le_of_ble_eq_true hfl) hc0 hl'
      have hn0 : n ≠ 0 := by simpa using h0
      refine ⟨_, ?_, r, r2, VS.undef, r3⟩
      obtain ⟨m, rfl⟩ := Nat.exists_eq_succ_of_ne_zero hn0
      simp [Builtin.clear_, run_underlying hd, zeroValue, typeInfo, hi', hz, r1, Go.undef]
    · cases hq
      have hn0 : n = 0 := by simpa using h0
      subst hn0
      exact ⟨w, by simp [Builtin.clear_, run_underlying hd, Go.undef], Post.same hi VS.undef⟩
  · cases hq

theorem Heap.del_alloc_get (h : Heap) (l : Nat) (cs : List S) (k : Nat) : Heap.get ⟨(h.next, ⟨cs, true⟩) :: Hp.del h.m l, h.next + 1⟩ k = if k = h.next then some ⟨cs, true⟩ else if k = l then none else h.get k := by
  show Hp.get ((h.next, _) :: Hp.del h.m l) k = _
  rw [Hp.get_cons, Hp.get_del]
  by_cases e : k = h.next
  · subst e; simp
  · rw [if_neg e]
    have : (h.next == k) = false := by simpa using fun e' => e e'.symm
    simp only [this, cond_false]
    rfl
set_option maxHeartbeats 1000000 in
/-- a row that is written behind its end: its old name goes -/
theorem appW_ok (hty : TyOk P ty) (hi : Inv h r B w) {t t2 : TypeId} {E : Ty} (hE : elemOf ty t = some E) (hs2 : isSeq ty t2 = true) {s x : S} {us ux : Value} (hus : VS r s us) (hux : VS r x ux) {k : Nat} {cs : List S} (hsrc : srcCells h x = some (k, cs))
    (hk : okApp E k cs = true) (hsz : szS s = E.size) {v : V} {h' : Heap} (hq : appW h fl k cs s = some (v, h')) (o : TypeId) : ∃ z w', (Builtin.append_ #[t, t2] o #[us, ux]).run P w = .ok z w' ∧ Post B fl h r w v h' z w' := by
  obtain ⟨e, hd, hE'⟩ := elemOf_ok hty hE
  obtain ⟨d2, hd2, hd2'⟩ := isSeq_ok hty hs2
  obtain ⟨i, d, z, hi', hd', hz, h1, h2, h3, h4, h5⟩ := hty e E hE'
  obtain ⟨hok, hk1, hk2⟩ := okApp_some hk
  obtain ⟨hb, hs, hzl⟩ := okE_some hok
  obtain ⟨news, g1, g2⟩ := src_ok (P := P) hi hux hsrc hk2
  unfold appW at hq
  split at hq
  · rename_i l o' n q c
    have hq' : q = E.size := hsz
    subst hq'
    cases hc : (Nat.ble n 65536 && Nat.ble (n + k) c && Nat.ble fl l) <;> rw [hc] at hq <;> simp only [cond_true, cond_false] at hq
    · cases hq
    simp only [Bool.and_eq_true] at hc
    have hnk := Nat.le_of_ble_eq_true hc.1.2
    have hfl := Nat.le_of_ble_eq_true hc.2
    obtain ⟨b, hb', hq⟩ := ob_some hq
    cases ho : b.own <;> rw [ho] at hq <;> simp only [cond_true, cond_false] at hq
    · cases hq
    obtain ⟨cs', hl', hq⟩ := ob_some hq
    cases hq
    obtain ⟨cc, rfl, hl, hz0, hn', hcc⟩ := sl_val hus
    have hcc : cc = c := by rcases hcc with e | ⟨e, _⟩ <;> cases e; rfl
    subst hcc
    obtain ⟨r1, r2, r3⟩ := lay_ok (P := P) (fl := fl) hi hb' ho hfl g1 hl'
    have hr := app_in (P := P) (w := w) (o := o) (a := r.at l o') (c := cc) hd hd2 hd2' hi' (h2 ▸ g2) (n := n) hnk
    rw [Addr.add_at, ← h2, r1] at hr
    exact ⟨_, _, hr, r, r2, ⟨hl, hz0, hnk, rfl⟩, r3⟩
  · rename_i l o' n q
    have hq' : q = E.size := hsz
    subst hq'
    cases hc : (Nat.ble n 65536 && Nat.ble fl l && o' == 0) <;> rw [hc] at hq <;> simp only [cond_true, cond_false] at hq
    · cases hq
    simp only [Bool.and_eq_true, beq_iff_eq] at hc
    obtain ⟨⟨hn, hfl⟩, rfl⟩ := hc
    have hn := Nat.le_of_ble_eq_true hn
    have hfl := Nat.le_of_ble_eq_true hfl
    obtain ⟨b, hb', hq⟩ := ob_some hq
    cases ho : (b.own && Nat.ble (n * E.size) b.cells.length) <;> rw [ho] at hq <;> simp only [cond_true, cond_false] at hq
    · cases hq
    simp only [Bool.and_eq_true] at ho
    obtain ⟨ho, hbl0⟩ := ho
    have hbl0 := Nat.le_of_ble_eq_true hbl0
    have hbl : (b.cells.take (n * E.size)).length = n * E.size := by rw [List.length_take]; omega
    cases hq
    have hus0 := hus
    obtain ⟨cc, rfl, hl, hz0, hn', hcc⟩ := sl_val hus
    have hcc : cc = r.cap l / E.size := by rcases hcc with e | ⟨_, e⟩; · cases e
                                           · simpa using e
    obtain ⟨q1, q2, C, T, fz, q3, q4, q5, q6⟩ := hi.hr.own l b hb' ho
    have hread : h.read l 0 (n * E.size) = some (b.cells.take (n * E.size)) := by
      show ob (h.get l) (fun b => ext b.cells 0 (n * E.size)) = _
      rw [hb']
      have : ∀ (l' : List S) (m : Nat), m ≤ l'.length → taken l' m = some (l'.take m) := by
        intro l'
        induction l' with
        | nil => intro m hm; obtain rfl : m = 0 := by simpa using hm
                 rfl
        | cons a t ih =>
          intro m hm
          cases m with
          | zero => rfl
          | succ m =>
            show (Option.rec none (fun r => some (a :: r)) (taken t m) : Option (List S)) = _
            rw [ih m (by simpa using hm)]
            rfl
      simp only [ob_some', ext, List.drop_zero]
      exact this _ _ hbl0
    by_cases hroom : n + k ≤ cc
    · -- there is room: the block goes on under a new name
      have hmul : (n + k) * E.size ≤ C.size := by
        rw [q4]
        refine Nat.le_trans (Nat.mul_le_mul_right _ hroom) ?_
        rw [hcc]
        exact Nat.div_mul_le_self _ _
      have hnl := g1.len
      have hfit : n * E.size + news.length ≤ C.size := by
        rw [← hnl, hk2, ← Nat.add_mul]; exact hmul
      obtain ⟨D, d1, d2, d3, d4, d5, d6, d7⟩ := setCells_at news (n * E.size) C w q3 hfit
      have hone := all_one g1
      have hst := run_storeCells_cells (P := P) (r.blk l) (n * E.size) news 0 w (fun j hj => by
          have : n * E.size + j < C.size := by omega
          simp [World.cell?, q3, this]) (fun j hj => by
          have := q5 (n * E.size + 0 + j) (by omega)
          simp only [World.frozen?, q3]
          exact this) hone
      have hat : r.at l (n * E.size) = ⟨r.blk l, n * E.size, none⟩ := by simp [Ren.at, q2]
      have hr := app_in (P := P) (w := w) (o := o) (a := r.at l 0) (c := cc) hd hd2 hd2' hi' (h2 ▸ g2) (n := n) hroom
      rw [Addr.add_at, ← h2, Nat.zero_add, hat] at hr
      simp only [Nat.add_zero] at hst
      rw [hst] at hr
      have hDs : D.size = C.size := by
        have := congrArg List.length d2
        simp at this
        omega
      have hle := r.le_new h.next (r.blk l) C.size (Inv.not h hi)
      have hdl := hi.n l (hi.hr.dom l b hb')
      have hnb : (r.new h.next (r.blk l) C.size).blk h.next = r.blk l := by simp [Ren.new]
      have hDC : ∀ j, j < n * E.size → D[j]? = C[j]? := fun j hj => by
        have e1 : D[j]? = D.toList[j]? := by rw [Array.getElem?_toList]
        rw [e1, d2, List.getElem?_append_left (by simp; omega), List.getElem?_take_of_lt hj, Array.getElem?_toList]
      refine ⟨_, _, hr, r.new h.next (r.blk l) C.size, ⟨fun l hl => by
          show l < h.next + 1
          rcases hl with hl | hl
          · have := hi.n l hl; omega
          · omega, by rw [d7]; exact hi.b, ?_⟩, ?_, ?_⟩
      · refine ⟨fun m c hm => ?_, fun m c hm hc => ?_, fun m c hm hc => ?_, fun m c m' c' e1 o1 e2 o2 e => ?_, hi.hr.nb, fun k hk => (d3 k (by have := hi.hr.nb; omega)).trans (hi.hr.z k hk)⟩
        · rw [Heap.del_alloc_get] at hm
          split at hm
          · rename_i e; exact .inr e
          · split at hm
            · cases hm
            · exact .inl (hi.hr.dom m c hm)
        · rw [Heap.del_alloc_get] at hm
          split at hm
          · rename_i e; subst e; cases hm
            rw [hnb]
            refine ⟨q1, by simp [Ren.new], D, T, fz, d1, by simp [Ren.new, hDs], by rw [hDs]; exact q5, fun i x hx => ?_⟩
            rw [nth_eq] at hx
            by_cases c1 : i < (b.cells.take (n * E.size)).length
            · rw [List.getElem?_append_left c1] at hx
              obtain ⟨u, hu1, hu2⟩ := q6 i x (by rw [nth_eq]; rw [List.getElem?_take] at hx; split at hx <;> first | exact hx | cases hx)
              exact ⟨u, by rw [hDC i (by omega)]; exact hu1, VS.mono hle hu2⟩
            · rw [List.getElem?_append_right (by omega)] at hx
              obtain ⟨u, hu1, hu2⟩ := All2.nth g1 (by rw [nth_eq]; exact hx)
              refine ⟨u, ?_, VS.mono hle hu2⟩
              have e1 : D[i]? = D.toList[i]? := by rw [Array.getElem?_toList]
              have e2 : (C.toList.take (n * E.size)).length = n * E.size := by simp; omega
              rw [e1, d2, List.getElem?_append_right (by omega), e2, ← hbl]
              rw [List.getElem?_append_left (List.getElem?_eq_some_iff.1 hu1).1]
              exact hu1
          · rename_i e
            split at hm
            · cases hm
            · rename_i e'
              obtain ⟨p1, p2, C', T', fz', p3, p4, p5, p6⟩ := hi.hr.own m c hm hc
              have hml := hi.hr.dom m c hm
              rw [hle.blk m hml, hle.off m hml, hle.cap m hml]
              exact ⟨p1, p2, C', T', fz', by rw [d3 _ (fun e'' => e' (hi.hr.inj m c l b hm hc hb' ho e''))]; exact p3, p4, p5, fun i x hx => by obtain ⟨u, hu1, hu2⟩ := p6 i x hx; exact ⟨u, hu1, VS.mono hle hu2⟩⟩
        · rw [Heap.del_alloc_get] at hm
          split at hm
          · cases hm; cases hc
          · split at hm
            · cases hm
            · obtain ⟨p1, p2⟩ := hi.hr.ro m c hm hc
              have hml := hi.hr.dom m c hm
              rw [hle.blk m hml]
              refine ⟨p1, fun i x hx => ?_⟩
              obtain ⟨u, hu, hv⟩ := p2 i x hx
              rw [hle.at hml]
              have e : (w.setCells (r.blk l) (n * E.size) news).cell? (r.at m i) = w.cell? (r.at m i) := World.cell?_of_block (d3 _ (by show r.blk m ≠ _; omega))
              exact ⟨u, by rw [e]; exact hu, VS.mono hle hv⟩
        · have key : ∀ m c, Heap.get ⟨(h.next, ⟨b.cells.take (n * E.size) ++ cs, true⟩) :: Hp.del h.m l, h.next + 1⟩ m = some c → c.own = true → (m = h.next ∧ (r.new h.next (r.blk l) C.size).blk m = r.blk l) ∨ (m ≠ h.next ∧ m ≠ l ∧ h.get m = some c ∧ (r.new h.next (r.blk l) C.size).blk m = r.blk m) := fun m c hm hc => by
            rw [Heap.del_alloc_get] at hm
            split at hm
            · rename_i e; exact .inl ⟨e, by rw [e, hnb]⟩
            · rename_i e
              split at hm
              · cases hm
              · rename_i e'
                exact .inr ⟨e, e', hm, hle.blk m (hi.hr.dom m c hm)⟩
          rcases key m c e1 o1 with ⟨a1, a2⟩ | ⟨a1, a2, a3, a4⟩ <;> rcases key m' c' e2 o2 with ⟨b1, b2⟩ | ⟨b1, b2, b3, b4⟩
          · omega
          · rw [a2, b4] at e
            exact absurd (hi.hr.inj m' c' l b b3 o2 hb' ho e.symm) b2
          · rw [a4, b2] at e
            exact absurd (hi.hr.inj m c l b a3 o1 hb' ho e) a2
          · rw [a4, b4] at e
            exact hi.hr.inj m c m' c' a3 o1 b3 o2 e
      · have hcapn : (r.new h.next (r.blk l) C.size).cap h.next = r.cap l := by simp [Ren.new, q4]
        have hatn : (r.new h.next (r.blk l) C.size).at h.next 0 = r.at l 0 := by simp [Ren.at, Ren.new, q2]
        refine ⟨.inr rfl, ⟨hs, by rw [hcapn]; exact hus0.2.1.2⟩, ?_, ?_⟩
        · rw [hcapn, Nat.sub_zero, ← hcc]; exact hroom
        · rw [hcapn, hatn, Nat.sub_zero, ← hcc]
      · refine ⟨hle, Nat.le_succ _, fun l hl => by
            rcases hl with hl | hl
            · exact .inl hl
            · exact .inr (Nat.le_of_eq hl.symm), d4, d5, d6, by omega, fun m _ hno => d3 m (fun e => hno l b hb' ho hfl e.symm), fun m hm hmf => ?_, fun m c hm hc => ?_, fun m c hm hc => ?_⟩
        · rw [Heap.del_alloc_get, if_neg (by omega), if_neg (by omega)]
        · rw [Heap.del_alloc_get, if_neg (by omega)] at hc
          split at hc
          · cases hc
          · exact ⟨c, hc, rfl⟩
        · rw [Heap.del_alloc_get] at hc
          split at hc
          · rename_i e; subst e; cases hc
            exact ⟨rfl, .inr ⟨l, b, hb', ho, hfl, hnb⟩⟩
          · split at hc
            · cases hc
            · have := hi.n m (hi.hr.dom m c hc); omega
    · -- no room: a new row
      obtain ⟨olds, o1, o2, o3⟩ := load_cells (P := P) hi hread
      obtain ⟨zz, w', hrun, r', p1, p2, p3⟩ := grow_ok hty hi hE hs2 (a := some (r.at l 0)) (c := cc) hk g2 g1 o1 hbl (Nat.lt_of_not_le hroom) hn (o3 w.drew (fun _ => rfl)) o fl
      refine ⟨zz, w', hrun, r', ?_, p2, ?_⟩
      · refine ⟨p1.n, p1.b, p1.hr.sub fun m c hm => ?_⟩
        rw [Heap.del_alloc_get] at hm
        rw [Heap.get_alloc]
        split at hm
        · rename_i e; rw [if_pos e]; exact hm
        · rename_i e
          split at hm
          · cases hm
          · rw [if_neg e]; exact hm
      · have hdl := hi.n l (hi.hr.dom l b hb')
        refine ⟨p3.le, p3.nn, p3.okn, p3.os, p3.tape, p3.output, p3.size, p3.frame, fun m hm hmf => ?_, fun m c hm hc => ?_, fun m c hm hc => ?_⟩
        · rw [Heap.del_alloc_get, if_neg (by omega), if_neg (by omega)]
        · rw [Heap.del_alloc_get, if_neg (by omega)] at hc
          split at hc
          · cases hc
          · exact ⟨c, hc, rfl⟩
        · rw [Heap.del_alloc_get] at hc
          split at hc
          · rename_i e
            exact p3.fresh m c hm (by rw [Heap.get_alloc, if_pos e]; exact hc)
          · split at hc
            · cases hc
            · have := hi.n m (hi.hr.dom m c hc); omega
  · cases hq
end
end Go.Proofs.Ytbebbbclhgjcbaa.Am
/-! One operation of the abstract machine, with memory; regions in the text's order. (No program in sight.) -/
namespace Go.Proofs.Ytbebbbclhgjcbaa.Am
set_option linter.unusedSectionVars false
variable [Base]

/-- a function that can be called -/
def Callable (P : Program) (f : FuncId) : Prop := ∃ fn, P.funcs[f]? = some fn ∧ (fn.name == "runtime.NumGoroutine") = false ∧ fn.body.isNone = false
/-- what a call is said to come to, it comes to -/
def Sound (P : Program) (O : Oracle) : Prop :=
  ∀ f args h fl v h', O f args h fl = some (v, h') → Callable P f ∧ ∀ r B w vs, Inv h r B w → All2 (VA r) args vs →
    Calls P f vs.toArray w fun e w' => ∃ u, e = .returned u ∧ Post B fl h r w v h' u w'

section
/-- what a context says is so -/
structure CtxOk (P : Program) (C : Ctx) : Prop where
  call : Sound P C.call
  tb : TabsOk C.tb
variable {P : Program} {C : Ctx} {h hw : Heap} {r : Ren} {B fl : Nat} {w : World} {fr : Fr} {a : Act} {o : Oper}

theorem cases_call {c : Call} {x y : TypeId} {s t : Operand} (h1 : c.argTypes.toList = [x, y]) (h2 : c.args.toList = [s, t]) : c.argTypes = #[x, y] ∧ c.args = #[s, t] := by
  constructor
  · cases hc : c.argTypes; rw [hc] at h1; simp at h1; rw [h1]
  · cases hc : c.args; rw [hc] at h2; simp at h2; rw [h2]
theorem appOp_some {ty : Tys} {ts : List TypeId} {xs : List Operand} {k : Ty → Nat → List S → S → R} {v : V × Heap} (hh : appOp ty fr h ts xs k = some v) :
    ∃ t u s x E sv xv p, ts = [t, u] ∧ xs = [s, x] ∧ isSeq ty u = true ∧ elemOf ty t = some E ∧ evS fr s = some sv ∧ evS fr x = some xv ∧ srcCells h xv = some p ∧ okApp E p.1 p.2 = true ∧ k E p.1 p.2 sv = some v := by
  unfold appOp at hh
  split at hh
  · rename_i t u s x
    cases hq : isSeq ty u <;> rw [hq] at hh <;> simp only [cond_true, cond_false] at hh
    · cases hh
    obtain ⟨E, hE, hh⟩ := ob_some hh
    obtain ⟨sv, hsv, hh⟩ := ob_some hh
    obtain ⟨xv, hxv, hh⟩ := ob_some hh
    obtain ⟨p, hp, hh⟩ := ob_some hh
    cases hk : okApp E p.1 p.2 <;> rw [hk] at hh <;> simp only [cond_true, cond_false] at hh
    · cases hh
    exact ⟨t, u, s, x, E, sv, xv, p, rfl, rfl, hq, hE, hsv, hxv, hp, hk, hh⟩
  · cases hh
theorem append_run {c : Call} (ho : o.op = .call c) (hc : c.callee = .builtin .append) {t u : TypeId} {s x : Operand} (h1 : c.argTypes.toList = [t, u]) (h2 : c.args.toList = [s, x]) {z : Value} {w' : World}
    (hr : (Builtin.append_ #[t, u] o.type #[a.eval s, a.eval x]).run P w = .ok z w') : (execOp a.eval o).run P w = .ok (.value z) w' := by
  obtain ⟨e1, e2⟩ := cases_call h1 h2
  simp [execOp, ho, resolve, hc, invoke, builtin, e1, e2, hr]
theorem natOf_ok {n : Int} {k : Nat} (h : natOf n = some k) : n = k := by
  cases n with
  | ofNat i => cases h; rfl
  | negSucc i => cases h

theorem orR_some {x y : R} {z : V × Heap} (h : orR x y = some z) : x = some z ∨ y = some z := by
  cases x with
  | none => exact .inr h
  | some q => cases h; exact .inl rfl
theorem quiet_ok (hty : TyOk P C.ty) (hi : Inv h r B w) (hf : FR r fr a) {v : V} {h' : Heap} (hh : how C fr h hw fl o.op = .q (some (v, h'))) (fl' : Nat) : OpR P o a w (Post B fl' h r w v h') := by
  cases ho : o.op <;> simp only [ho, how] at hh <;> (try (cases hh; done)) <;> (try (simp only [How.q.injEq] at hh))
  case alloc t =>
    obtain ⟨T, hT, hh⟩ := ob_some hh
    cases hh
    obtain ⟨z, hz, hr⟩ := alloc_run (P := P) (w := w) hty hT
    obtain ⟨g1, g2⟩ := new_row hi (all2_nth (hz r)) t fl'
    exact OpR.val (v := .pointer (some ⟨w.heap.size, 0, none⟩)) (by simp [execOp, ho, hr]) ⟨_, g1, ptr_new _ _ _ _, g2⟩
  case box t x =>
    obtain ⟨y, hy, hh⟩ := ob_some hh
    cases hh
    have hv := VA.cells (evA_ok hf hy)
    obtain ⟨g1, g2⟩ := new_row hi (all2_nth hv) t fl'
    exact OpR.val (v := .pointer (some ⟨w.heap.size, 0, none⟩)) (by simp [execOp, ho, Instr.box, newVar, newRow]) ⟨_, g1, ptr_new _ _ _ _, g2⟩
  case buildSlice t len ps =>
    obtain ⟨E, hE, hh⟩ := ob_some hh
    obtain ⟨qs, hqs, hh⟩ := ob_some hh
    cases hc : (okE E && Nat.ble (len * E.size) 65536) <;> rw [hc] at hh <;> simp only [cond_true, cond_false] at hh
    · cases hh
    simp only [Bool.and_eq_true] at hc
    obtain ⟨cs, hcs, hh⟩ := ob_some hh
    cases hh
    obtain ⟨u, w', hr, hp⟩ := buildSlice_ok (P := P) hty hi hE (evParts_ok hf hqs) hc.1 (Nat.le_of_ble_eq_true hc.2) hcs fl'
    refine OpR.val ?_ hp
    simp only [execOp, ho]
    rw [show (ps.map fun (x : Nat × Operand) => match x with | (i, x) => (i, a.eval x)) = (ps.toList.map fun p => (p.1, a.eval p.2)).toArray from by cases ps; simp]
    simp [hr]
  case load t x =>
    unfold howLoad at hh
    split at hh
    · cases hh
    simp only [How.q.injEq] at hh
    have hh : orR (load0 C.ty fr h t x) (loadX C.ty fr h t x) = some (v, h') := hh
    rcases orR_some hh with hh | hh
    case inr =>
      obtain ⟨T, hT, hh⟩ := ob_some hh
      obtain ⟨p, hp, hh⟩ := ob_some hh
      split at hh
      · rename_i l o n i
        cases hc : (T.size == 1 && !T.d.agg) <;> rw [hc] at hh <;> simp only [cond_true, cond_false] at hh
        · cases hh
        simp only [Bool.and_eq_true, beq_iff_eq, Bool.not_eq_true'] at hc
        obtain ⟨cs, hcs, hh⟩ := ob_some hh
        obtain ⟨m, hm, hh⟩ := ob_some hh
        cases hh
        have hsz := hc.1
        obtain ⟨hl, k1, k2, hv⟩ := evS_ok hf hp
        obtain ⟨j, hj⟩ : ∃ j : Nat, Base.rho i = j := ⟨_, (Int.toNat_of_nonneg k1).symm⟩
        obtain ⟨b, hb, hcs⟩ := ob_some hcs
        obtain ⟨e1, hcs'⟩ := ext_eq hcs
        have hjn : j < n := by omega
        have hcj : ∃ c, cs[j]? = some c ∧ b.cells[o + j]? = some c := by
          have h2 : cs[j]? = b.cells[o + j]? := by
            rw [hcs', List.getElem?_take_of_lt hjn, List.getElem?_drop]
          refine ⟨b.cells[o + j]'(by omega), ?_, List.getElem?_eq_getElem _⟩
          rw [h2]
          exact List.getElem?_eq_getElem _
        obtain ⟨c, hc1, hc2⟩ := hcj
        have hci := Base.ok.xt.ld _ _ _ (findLd_mem hm) j c hc1 hj
        have hread : h.read l (o + j) T.size = some [c] := by
          rw [hsz]
          show ob (h.get l) (fun b => ext b.cells (o + j) 1) = _
          rw [hb]
          show taken (b.cells.drop (o + j)) 1 = some [c]
          have : (b.cells.drop (o + j))[0]? = some c := by rw [List.getElem?_drop, Nat.add_zero]; exact hc2
          cases hd : b.cells.drop (o + j) with
          | nil => rw [hd] at this; cases this
          | cons z zs =>
            rw [hd] at this
            cases this
            cases zs <;> rfl
        have hmk : T.mk' [c] = some (.s c) := by unfold Ty.mk'; rw [hc.2]; rfl
        obtain ⟨z, hz, hz'⟩ := load_ok (P := P) hty hi hT hread hmk
        have h2 : a.eval x = .pointer (some (r.at l (o + j))) := by rw [hv, hj, Int.toNat_natCast]
        exact OpR.val (v := z) (by simp [execOp, ho, h2, hz]) (Post.same hi (show VV r (V.s (.xi .i64 m)) z from (i64_is hci).1 hz'))
      · cases hh
    obtain ⟨T, hT, hh⟩ := ob_some hh
    obtain ⟨p, hp, hh⟩ := ob_some hh
    obtain ⟨cs, hcs, hh⟩ := ob_some hh
    obtain ⟨y, hy, hh⟩ := ob_some hh
    cases hh
    obtain ⟨h1, h2⟩ := evPtr_ok hf hp
    obtain ⟨z, hz, hz'⟩ := load_ok (P := P) hty hi hT hcs hy
    exact OpR.val (by simp [execOp, ho, h2, hz]) (Post.same hi hz')
  case convert src dst x =>
    unfold howConv at hh
    split at hh
    · cases hh
    · simp only [How.q.injEq] at hh
      obtain ⟨y, hy, hh⟩ := ob_some hh
      have hv := evS_ok hf hy
      cases hc : (isStrT C.ty dst && u8T C.ty src) <;> rw [hc] at hh <;> simp only [cond_true, cond_false] at hh
      · cases hc' : (isStrT C.ty src && u8T C.ty dst) <;> rw [hc'] at hh <;> simp only [cond_true, cond_false] at hh
        · cases hh
        simp only [Bool.and_eq_true] at hc'
        obtain ⟨z, w', hr, hp⟩ := bytesOf_ok (P := P) hty hi hc'.1 hc'.2 hv hh fl'
        exact OpR.val (by simp [execOp, ho, hr]) hp
      · simp only [Bool.and_eq_true] at hc
        obtain ⟨rfl, z, hr, hp⟩ := strOf_ok (P := P) hty hi hc.2 hc.1 hv hh
        exact OpR.val (by simp [execOp, ho, hr]) (Post.same hi hp)
  case makeSlice t l c =>
    obtain ⟨E, hE, hh⟩ := ob_some hh
    obtain ⟨n, hn, hh⟩ := ob_some hh
    obtain ⟨n', hn', hh⟩ := ob_some hh
    obtain ⟨m, hm, hh⟩ := ob_some hh
    obtain ⟨m', hm', hh⟩ := ob_some hh
    cases hc : (okE E && Nat.ble n' m' && Nat.ble m' 65536) <;> rw [hc] at hh <;> simp only [cond_true, cond_false] at hh
    · cases hh
    simp only [Bool.and_eq_true] at hc
    cases hh
    obtain rfl := natOf_ok hn'
    obtain rfl := natOf_ok hm'
    obtain ⟨kl, hkl⟩ := evInt_ok hf hn
    obtain ⟨kc, hkc⟩ := evInt_ok hf hm
    obtain ⟨u, w', hr, hp⟩ := makeSlice_ok (P := P) hty hi hE hc.1.1 (Nat.le_of_ble_eq_true hc.1.2) (Nat.le_of_ble_eq_true hc.2) kl kc fl'
    exact OpR.val (by simp [execOp, ho, hkl, hkc, hr]) hp
  case call c =>
    cases hcal : c.callee <;> simp only [hcal, howCall] at hh <;> (try (cases hh; done))
    unfold howBuiltin at hh
    split at hh <;> cases hh

theorem quietQW_ok (hty : TyOk P C.ty) (hi : Inv h r B w) (hf : FR r fr a) {v : V} {h' : Heap} {r' : R} (hh : how C fr h hw fl o.op = .qw (some (v, h')) r') (fl' : Nat) : OpR P o a w (Post B fl' h r w v h') := by
  cases ho : o.op <;> simp only [ho, how] at hh <;> (try (cases hh; done))
  case load t x => unfold howLoad at hh; split at hh <;> cases hh
  case convert src dst x => unfold howConv at hh; split at hh <;> cases hh
  case call c =>
    cases hcal : c.callee <;> simp only [hcal, howCall] at hh <;> (try (cases hh; done))
    unfold howBuiltin at hh
    split at hh
    · simp only [How.qw.injEq] at hh
      obtain ⟨t, u, s, x, E, sv, xv, p, e1, e2, e3, e4, e5, e6, e7, e8, e9⟩ := appOp_some hh.1
      obtain ⟨z, w', hr, hp⟩ := appQ_ok (P := P) hty hi e4 e3 (evS_ok hf e5) (evS_ok hf e6) e7 e8 e9 o.type fl'
      exact OpR.val (append_run ho hcal e1 e2 hr) hp
    · cases hh
    · cases hh
    · cases hh
theorem writeQW_ok (hty : TyOk P C.ty) (hi : Inv hw r B w) (hf : FR r fr a) {v : V} {h' : Heap} {r' : R} (hh : how C fr h hw fl o.op = .qw r' (some (v, h'))) : OpR P o a w (Post B fl hw r w v h') := by
  cases ho : o.op <;> simp only [ho, how] at hh <;> (try (cases hh; done))
  case load t x => unfold howLoad at hh; split at hh <;> cases hh
  case convert src dst x => unfold howConv at hh; split at hh <;> cases hh
  case call c =>
    cases hcal : c.callee <;> simp only [hcal, howCall] at hh <;> (try (cases hh; done))
    unfold howBuiltin at hh
    split at hh
    · simp only [How.qw.injEq] at hh
      obtain ⟨t, u, s, x, E, sv, xv, p, e1, e2, e3, e4, e5, e6, e7, e8, e9⟩ := appOp_some hh.2
      cases hz : (szS sv == E.size) <;> rw [hz] at e9 <;> simp only [cond_true, cond_false] at e9
      · cases e9
      obtain ⟨z, w', hr, hp⟩ := appW_ok (P := P) hty hi e4 e3 (evS_ok hf e5) (evS_ok hf e6) e7 e8 (by simpa using hz) e9 o.type
      exact OpR.val (append_run ho hcal e1 e2 hr) hp
    · cases hh
    · cases hh
    · cases hh
theorem write_ok (hty : TyOk P C.ty) (hi : Inv hw r B w) (hf : FR r fr a) {v : V} {h' : Heap} (hh : how C fr h hw fl o.op = .w (some (v, h'))) : OpR P o a w (Post B fl hw r w v h') := by
  cases ho : o.op <;> simp only [ho, how] at hh <;> (try (cases hh; done)) <;> (try (simp only [How.w.injEq] at hh))
  case load t x => unfold howLoad at hh; split at hh <;> cases hh
  case convert src dst x => unfold howConv at hh; split at hh <;> cases hh
  case store t x y =>
    rcases orR_some hh with hh | hh
    case inr =>
      obtain ⟨p, hp, hh⟩ := ob_some hh
      obtain ⟨q, hq, hh⟩ := ob_some hh
      obtain ⟨T, l, k, w', hT, h1, h2, h3, h4, h5, h6, h7⟩ := storeX_ok (P := P) hi (evS_ok hf hp) (evS_ok hf hq) hh
      subst h5
      have hsz := size_run (w := w) hty hT
      refine OpR.skip ?_ ⟨r, h6, VS.undef, h7⟩
      simp [execOp, ho, h2, h3, Instr.storeAt, Instr.sureAddr, storeVar, hsz, h1, h4]
    obtain ⟨T, hT, hh⟩ := ob_some hh
    obtain ⟨p, hp, hh⟩ := ob_some hh
    obtain ⟨v', hv', hh⟩ := ob_some hh
    cases hc : (v'.cells.length == T.size && Nat.ble fl p.1) <;> rw [hc] at hh <;> simp only [cond_true, cond_false] at hh
    · cases hh
    simp only [Bool.and_eq_true, beq_iff_eq] at hc
    obtain ⟨b, hb, hh⟩ := ob_some hh
    cases hbo : b.own <;> rw [hbo] at hh <;> simp only [cond_true, cond_false] at hh
    · cases hh
    obtain ⟨cs, hcs, hh⟩ := ob_some hh
    cases hh
    obtain ⟨h1, h2⟩ := evPtr_ok hf hp
    have hvc := VA.cells (evA_ok hf hv')
    obtain ⟨g1, g2, g3⟩ := lay_ok (P := P) (fl := fl) hi hb hbo (Nat.le_of_ble_eq_true hc.2) hvc hcs
    have hsz := size_run (w := w) hty hT
    have hlen : (a.eval y).cells.size = T.size := by have := hvc.len; simp at this; omega
    refine OpR.skip ?_ ⟨r, g2, VS.undef, g3⟩
    simp [execOp, ho, h2, Instr.storeAt, Instr.sureAddr, storeVar, hsz, hlen, g1]
  case call c =>
    cases hcal : c.callee <;> simp only [hcal, howCall] at hh <;> (try (cases hh; done))
    unfold howBuiltin at hh
    split at hh
    · cases hh
    · simp only [How.w.injEq] at hh
      unfold clearOp at hh
      split at hh
      · rename_i t x ht hx
        obtain ⟨E, hE, hh⟩ := ob_some hh
        obtain ⟨s, hs, hh⟩ := ob_some hh
        obtain ⟨w', hr, hp⟩ := clear_ok (P := P) hty hi hE (evS_ok hf hs) hh o.type
        have e1 := toList_one ht
        have e2 := toList_one hx
        refine OpR.val (v := Go.undef) ?_ hp
        simp [execOp, ho, resolve, hcal, invoke, builtin, e1, e2, hr]
      · cases hh
    · cases hh
    · cases hh
theorem ptrs_ok : ∀ (cs : List (Nat × Nat)), (∀ p ∈ cs, r.ok p.1) → All2 (VA r) (cs.map fun p => A.s (S.ptr p.1 p.2)) (cs.map fun p => Value.pointer (some (r.at p.1 p.2)))
  | [], _ => trivial
  | p :: cs, h => ⟨⟨h p (by simp), rfl⟩, ptrs_ok cs fun q hq => h q (by simp [hq])⟩
theorem call_ok (hC : CtxOk P C) (hi : Inv h r B w) (hf : FR r fr a) {v : V} {h' h1 h2 : Heap} {fl' : Nat} {f : Operand} {as : List Operand} (hh : how C fr h1 h2 fl' o.op = .c f as) (hc : callOp C fr h fl f as = some (v, h')) : OpR P o a w (Post B fl h r w v h') := by
  cases ho : o.op <;> simp only [ho, how] at hh <;> (try (cases hh; done))
  case load t x => unfold howLoad at hh; split at hh <;> cases hh
  case convert src dst x => unfold howConv at hh; split at hh <;> cases hh
  case call c =>
    cases hcal : c.callee <;> simp only [hcal, howCall] at hh <;> (try (cases hh; done))
    · rename_i g
      simp only [How.c.injEq] at hh
      obtain ⟨rfl, rfl⟩ := hh
      obtain ⟨s, hs, hc⟩ := ob_some hc
      obtain ⟨xs, hxs, hc⟩ := ob_some hc
      cases s with
      | fn fid cs =>
        obtain ⟨⟨fn, k1, k2, k3⟩, hcalls⟩ := hC.call _ _ _ _ _ _ hc
        obtain ⟨hcs, hv⟩ := evS_ok hf hs
        have hargs : All2 (VA r) (xs ++ cs.map fun p => .s (.ptr p.1 p.2)) (c.args.toList.map a.eval ++ cs.map fun p => Value.pointer (some (r.at p.1 p.2))) := by
          refine (mapA_ok hf hxs).app ?_
          exact ptrs_ok cs hcs
        have := hcalls r B w _ hi hargs
        unfold OpR
        have hrun : (execOp a.eval o).run P w = .ok (.enter fid (c.args.toList.map a.eval ++ cs.map fun p => Value.pointer (some (r.at p.1 p.2))).toArray) w := by
          have e1 : c.args.map a.eval = (c.args.toList.map a.eval).toArray := by cases c.args; simp
          have k2' : ¬ fn.name = "runtime.NumGoroutine" := by simpa using k2
          have k3' : fn.body ≠ none := by intro e; rw [e] at k3; cases k3
          simp [execOp, ho, resolve, hcal, hv, Deferred.ofValue, invoke, callFunc, k1, k2', k3', e1]
        rw [hrun]
        exact this
      | _ => cases hc
    · unfold howBuiltin at hh
      split at hh <;> cases hh

theorem opr_ok (hty : TyOk P C.ty) (hC : CtxOk P C) (hi : Inv h r B w) (hf : FR r fr a) {v : V} {h' : Heap} (hh : opr C fr h fl o.op = some (v, h')) : OpR P o a w (Post B fl h r w v h') := by
  unfold opr runHow at hh
  cases hw : how C fr h h fl o.op with
  | p x =>
    rw [hw] at hh
    obtain ⟨y, rfl, hh⟩ := ob_some hh
    cases hh
    obtain ⟨u, hu, hv⟩ := how_pure (w := w) hty hC.tb hi.hr.z hf hw
    exact OpR.val hu (Post.same hi hv)
  | q x => rw [hw] at hh; subst hh; exact quiet_ok hty hi hf hw fl
  | w x => rw [hw] at hh; subst hh; exact write_ok hty hi hf hw
  | qw x y =>
    rw [hw] at hh
    cases x with
    | some x => cases hh; exact quietQW_ok hty hi hf hw fl
    | none =>
      have hh : y = some (v, h') := hh
      subst hh
      exact writeQW_ok hty hi hf hw
  | c f as =>
    rw [hw] at hh
    obtain ⟨vs, _, hh⟩ := ob_some (show callQ C fr h fl f as = some (v, h') from hh)
    cases hc : (vs.all noPtr && Nat.ble fl h.next) <;> rw [hc] at hh <;> simp only [cond_true, cond_false] at hh
    · exact call_ok hC hi hf hw hh
    · simp only [Bool.and_eq_true] at hc
      rcases orR_some hh with hh | hh
      · refine (call_ok hC hi hf hw hh).mono fun u w' ⟨r', g1, g2, g3⟩ => ⟨r', g1, g2, g3.low (Nat.le_of_ble_eq_true hc.2)⟩
      · exact call_ok hC hi hf hw hh

def valBool (u : Value) : Option Bool := match u with | .bool b => some b | _ => none
theorem boolV_ok {v : V} {u : Value} (hd : darkV v = false) (hv : VV r v u) : boolV v = valBool u := by
  cases v with
  | a x => cases x with
    | s x => cases x with
      | xe l =>
        have hd : Option.rec true (fun _ => false) (anyE l) = false := hd
        cases hl : anyE l with
        | none => rw [hl] at hd; cases hd
        | some b =>
          have e : u = .bool b := isBool_ok (r := r) (x := .xe l) hl hv
          rw [e]
          exact hl
      | xa l c =>
        have hd : Option.rec true (fun _ => false) (allK l) = false := hd
        cases hl : allK l with
        | none => rw [hl] at hd; cases hd
        | some b =>
          have e : u = .bool (b == c) := isBool_ok (r := r) (x := .xa l c) (show ob (allK l) _ = _ by rw [hl]; rfl) hv
          rw [e]
          show ob (allK l) _ = _
          rw [hl]
          rfl
      | px l o n i => rw [hv.2.2.2]; rfl
      | sl l o n z c => cases c with
        | none => rw [hv.2.2.2]; rfl
        | some c => rw [hv.2.2.2]; rfl
      | ptr l o => rw [hv.2]; rfl
      | fn f cs => rw [hv.2]; rfl
      | sle => obtain ⟨a, c, rfl⟩ := hv; rfl
      | ifc => obtain ⟨a, c, rfl⟩ := hv; rfl
      | rv k => obtain ⟨_, _, _, _, rfl⟩ := hv; rfl
      | pe k i o => obtain ⟨_, _, _, _, rfl⟩ := hv; rfl
      | top => cases hd
      | _ => cases hv; rfl
    | g l => obtain ⟨vs, rfl, _⟩ := hv; rfl
  | t l => obtain ⟨vs, rfl, _⟩ := hv; rfl
  | any => cases hd
theorem all2_get : ∀ {α β : Type} {R : α → β → Prop} {xs : List α} {ys : List β}, All2 R xs ys → ∀ n : Nat, (nth xs n = none ∧ ys[n]? = none) ∨ ∃ x y, nth xs n = some x ∧ ys[n]? = some y ∧ R x y
  | _, _, _, [], [], _, n => .inl ⟨rfl, by simp⟩
  | _, _, _, [], _ :: _, h, _ => h.elim
  | _, _, _, _ :: _, [], h, _ => h.elim
  | _, _, _, x :: xs, y :: ys, h, 0 => .inr ⟨x, y, rfl, rfl, h.1⟩
  | _, _, _, x :: xs, y :: ys, h, n + 1 => by rw [nth_cons_succ]; simpa using all2_get h.2 n
theorem yielded_ok (hf : FR r fr a) (ops : Array Oper) (j : Nat) (hg : Option.rec true (fun q => Option.rec true (fun d => Option.rec true (fun v => !(darkV v)) (nth fr d)) q.dst) (nth ops.toList j) = true) : yieldedV ops.toList fr j = yielded ops a.tmps j := by
  unfold yieldedV yielded
  rw [nth_eq, Array.getElem?_toList] at hg ⊢
  cases hj : ops[j]? with
  | none => rfl
  | some q =>
    rw [hj] at hg
    simp only [ob_some', Option.bind_some] at hg ⊢
    cases hd : q.dst with
    | none => rfl
    | some d =>
      rw [hd] at hg
      simp only [ob_some', Option.bind_some] at hg ⊢
      rcases all2_get hf d with ⟨h1, h2⟩ | ⟨x, y, h1, h2, h3⟩
      · rw [h1]; simp at h2; simp [Array.getElem?_eq_none h2]
      · rw [h1] at hg ⊢
        rw [Array.getElem?_toList] at h2
        rw [h2]
        have hx : darkV x = false := by simpa using hg
        simp only [ob_some', boolV_ok hx h3]
        cases y <;> rfl
theorem wanted_ok (hf : FR r fr a) (ops : Array Oper) (o : Oper) (hgo : guardOk ops.toList o fr = true) : wantedV ops.toList o fr = Region.wanted o (yielded ops a.tmps) := by
  unfold wantedV Region.wanted
  cases hg : o.guard with
  | none => rfl
  | some g =>
    obtain ⟨j, want⟩ := g
    unfold guardOk at hgo
    rw [hg] at hgo
    simp only [yielded_ok hf ops j hgo]
    cases yielded ops a.tmps j <;> rfl

/-- what is carried along: the frame, the memory -/
structure Rel (s : St) (r : Ren) (B : Nat) (a : Act) (w : World) : Prop where
  f : FR r s.fr a
  i : Inv s.h r B w

theorem listR_ok (hty : TyOk P C.ty) (hC : CtxOk P C) {ops : Array Oper} {Q : Exit → Act → World → Prop} {B : Nat} : ∀ (l : List Oper) {s s' : St} {r : Ren} {a : Act} {w : World}, Rel s r B a w → listR C fl ops.toList l s = some s' →
    (∀ r' a' w', Rel s' r' B a' w' → Adv fl s.h r w s'.h r' w' → a'.defers = a.defers → Q .normal a' w') → wpList P ops Q l a w
  | [], s, s', r, a, w, hr, hs, hq => by
    cases hs
    exact wpList_nil (hq r a w hr (Adv.refl fl hr.i) rfl)
  | o :: l, s, s', r, a, w, hr, hs, hq => by
    have hs' : (bif guardOk ops.toList o s.fr then bif wantedV ops.toList o s.fr then ob (opr C s.fr s.h fl o.op) (fun x => listR C fl ops.toList l ⟨putV s.fr o.dst x.1, x.2⟩) else listR C fl ops.toList l ⟨putV s.fr o.dst undef, s.h⟩ else none) = some s' := hs
    clear hs
    cases hgo : guardOk ops.toList o s.fr <;> rw [hgo] at hs' <;> simp only [cond_true, cond_false] at hs'
    · cases hs'
    refine wpList_step fun K hK => ?_
    rw [← wanted_ok hr.f ops o hgo]
    cases hw : wantedV ops.toList o s.fr <;> rw [hw] at hs' <;> simp only [cond_true, cond_false] at hs'
    · simp only [Bool.false_eq_true, if_false]
      refine hK _ _ (listR_ok hty hC l (s := ⟨putV s.fr o.dst undef, s.h⟩) (r := r) ⟨hr.f.put o.dst VS.undef, hr.i⟩ hs' fun r' a' w' h1 h2 h3 => hq r' a' w' h1 h2 (h3.trans (by cases o.dst <;> rfl)))
    · simp only [if_true]
      obtain ⟨x, hx, hs'⟩ := ob_some hs'
      obtain ⟨v, h'⟩ := x
      refine (opr_ok hty hC hr.i hr.f hx).wp fun u w' ⟨r', g1, g2, g3⟩ => hK _ _ ?_
      refine listR_ok hty hC l (s := ⟨putV s.fr o.dst v, h'⟩) (r := r') ⟨(hr.f.mono g3.le).put o.dst g2, g1⟩ hs' fun r'' a' w'' h1 h2 h3 => hq r'' a' w'' h1 (Adv.trans hr.i g1 g3 h2) (h3.trans (by cases o.dst <;> rfl))
end
end Go.Proofs.Ytbebbbclhgjcbaa.Am
/-! Regions whose order is drawn: what a step of the machine tells. (No program in sight.) -/
namespace Go.Proofs.Ytbebbbclhgjcbaa.Am
set_option linter.unusedSectionVars false
variable [Base]

/-! the machine looks at the slots of the operands alone -/
section
variable {C : Ctx} {fr fr' : Fr}
theorem evA_congr {x : Operand} (h : ev fr x = ev fr' x) : evA fr x = evA fr' x := by unfold evA; rw [h]
theorem evS_congr {x : Operand} (h : ev fr x = ev fr' x) : evS fr x = evS fr' x := by unfold evS; rw [evA_congr h]
theorem evInt_congr {x : Operand} (h : ev fr x = ev fr' x) : evInt fr x = evInt fr' x := by unfold evInt; rw [evS_congr h]
theorem evPtr_congr {x : Operand} (h : ev fr x = ev fr' x) : evPtr fr x = evPtr fr' x := by unfold evPtr; rw [evS_congr h]
theorem mapO_congr {α β : Type} {f g : α → Option β} : ∀ {l : List α}, (∀ x ∈ l, f x = g x) → mapO f l = mapO g l
  | [], _ => rfl
  | x :: l, h => by rw [mapO_cons, mapO_cons, h x (by simp), mapO_congr fun y hy => h y (by simp [hy])]
theorem optInt_congr {x : Option Operand} (h : ∀ y ∈ x, ev fr y = ev fr' y) : optInt fr x = optInt fr' x := by
  cases x with
  | none => rfl
  | some y => show ob (evInt fr y) _ = ob (evInt fr' y) _; rw [evInt_congr (h y rfl)]
theorem evParts_congr {ps : List (Nat × Operand)} (h : ∀ p ∈ ps, ev fr p.2 = ev fr' p.2) : evParts fr ps = evParts fr' ps :=
  mapO_congr fun p hp => by rw [evA_congr (h p hp)]
theorem appOp_congr {ty : Tys} {h : Heap} {ts : List TypeId} {xs : List Operand} {k : Ty → Nat → List S → S → R} (hx : ∀ x ∈ xs, ev fr x = ev fr' x) : appOp ty fr h ts xs k = appOp ty fr' h ts xs k := by
  unfold appOp
  split
  · rename_i t u s x
    rw [evS_congr (hx s (by simp)), evS_congr (hx x (by simp))]
  · rfl
theorem numO'_congr {x : Option Operand} (hx : ∀ y ∈ x, ev fr y = ev fr' y) : numO' fr x = numO' fr' x := by
  cases x with
  | none => rfl
  | some y =>
    show ob (evS fr y) (fun x => ob x.num fun p => some (some p.2)) = ob (evS fr' y) (fun x => ob x.num fun p => some (some p.2))
    rw [evS_congr (hx y rfl)]
theorem lenL_congr {T : Tabs} {ty : Tys} {ts : List TypeId} {xs : List Operand} (hx : ∀ x ∈ xs, ev fr x = ev fr' x) : lenL T ty fr ts xs = lenL T ty fr' ts xs := by
  unfold lenL
  split
  · rw [evS_congr (hx _ (by simp))]
  · rfl
theorem pureBuiltin_congr {ty : Tys} {c : Call} {b : Builtin} (hargs : ∀ x ∈ c.args.toList, ev fr x = ev fr' x) : pureBuiltin ty fr c b = pureBuiltin ty fr' c b := by
  unfold pureBuiltin lenOp foldOp
  rw [mapO_congr fun x hxa => evS_congr (hargs x hxa)]
  split
  · split
    · rename_i x _ hl
      rw [evA_congr (hargs x (by simp [hl]))]
    · rfl
  · rfl
  · rfl
  · rfl
theorem how_congr {h hw : Heap} {fl : Nat} {o : Op} (hx : ∀ x ∈ o.operands, ev fr x = ev fr' x) : how C fr h hw fl o = how C fr' h hw fl o := by
  cases o <;> simp only [how, Op.operands] at hx ⊢
  case move x => rw [hx x (by simp)]
  case assign x => rw [hx x (by simp)]
  case pick c a b => unfold pickOp; rw [evS_congr (hx c (by simp)), hx a (by simp), hx b (by simp)]
  case box t x => unfold boxOp; rw [evA_congr (hx x (by simp))]
  case build t ps => unfold buildOp; rw [evParts_congr fun p hp => hx p.2 (by simp; exact ⟨p.1, by simpa using hp⟩)]
  case buildSlice t l ps => unfold buildSliceOp; rw [evParts_congr fun p hp => hx p.2 (by simp; exact ⟨p.1, by simpa using hp⟩)]
  case load t x => unfold howLoad loadL loadOp load0 loadX; rw [evPtr_congr (hx x (by simp)), evS_congr (hx x (by simp))]
  case store t x v => unfold storeOp storeXOp; rw [evPtr_congr (hx x (by simp)), evA_congr (hx v (by simp)), evS_congr (hx x (by simp)), evS_congr (hx v (by simp))]
  case nilCheck x => unfold nilCheckOp; rw [evPtr_congr (hx x (by simp))]
  case binOp op t x y t' => unfold binOp' addL sumK; rw [evA_congr (hx x (by simp)), evA_congr (hx y (by simp)), evS_congr (hx x (by simp)), evS_congr (hx y (by simp))]
  case unOp op t x => unfold unOp'; rw [evS_congr (hx x (by simp))]
  case convert s d x => unfold howConv convOp convQ; rw [evS_congr (hx x (by simp))]
  case makeFunc fn f c =>
    unfold makeFuncOp
    split
    · rw [mapO_congr fun x hxc => evPtr_congr (hx x (by simp at hxc ⊢; exact .inr hxc))]
    · rfl
  case makeSlice t l c => unfold makeSliceOp; rw [evInt_congr (hx l (by simp)), evInt_congr (hx c (by simp))]
  case slice t x l h m =>
    unfold sliceOp cutK
    rw [evS_congr (hx x (by simp)), optInt_congr (x := l) (fun y hy => hx y (by simp [Option.mem_def.1 hy])), optInt_congr (x := h) (fun y hy => hx y (by simp [Option.mem_def.1 hy])), optInt_congr (x := m) (fun y hy => hx y (by simp [Option.mem_def.1 hy])),
      numO'_congr (x := l) (fun y hy => hx y (by simp [Option.mem_def.1 hy])), numO'_congr (x := h) (fun y hy => hx y (by simp [Option.mem_def.1 hy]))]
  case fieldAddr s x f => unfold fieldAddrOp fieldL; rw [evPtr_congr (hx x (by simp)), evS_congr (hx x (by simp))]
  case field s x f => unfold fieldOp; rw [evA_congr (hx x (by simp))]
  case indexAddr t x i => unfold indexAddrOp indexL; rw [evS_congr (hx x (by simp)), evS_congr (hx i (by simp))]
  case index t x i => unfold indexOp; rw [evA_congr (hx x (by simp)), evInt_congr (hx i (by simp))]
  case extract t i => unfold extractOp; rw [hx t (by simp)]
  case call c =>
    have hargs : ∀ x ∈ c.args.toList, ev fr x = ev fr' x := fun x hxa => hx x (by simp [Call.operands]; exact .inr (by simpa using hxa))
    cases hc : c.callee <;> simp only [howCall]
    rename_i b
    unfold howBuiltin
    split
    · unfold appQOp appWOp
      rw [appOp_congr hargs, appOp_congr hargs]
    · unfold clearOp
      split
      · rename_i x _ hl
        rw [evS_congr (hargs x (by simp [hl]))]
      · rfl
    · rw [pureBuiltin_congr hargs, lenL_congr hargs]
    · rw [pureBuiltin_congr hargs]
theorem callOp_congr {h : Heap} {fl : Nat} {f : Operand} {as : List Operand} (hf : ev fr f = ev fr' f) (ha : ∀ x ∈ as, ev fr x = ev fr' x) : callOp C fr h fl f as = callOp C fr' h fl f as := by
  unfold callOp
  rw [evS_congr hf, mapO_congr fun x hx => evA_congr (ha x hx)]
theorem how_c_mem {h hw : Heap} {fl : Nat} {o : Op} {f : Operand} {as : List Operand} (hh : how C fr h hw fl o = .c f as) : f ∈ o.operands ∧ ∀ x ∈ as, x ∈ o.operands := by
  cases o <;> simp only [how] at hh <;> (try (cases hh; done))
  case load t x => unfold howLoad at hh; split at hh <;> cases hh
  case convert s d x => unfold howConv at hh; split at hh <;> cases hh
  case call c =>
    cases hc : c.callee <;> simp only [hc, howCall] at hh <;> (try (cases hh; done))
    · cases hh
      exact ⟨by simp [Op.operands, Call.operands, hc], fun x hx => by simp [Op.operands, Call.operands]; exact .inr (by simpa using hx)⟩
    · unfold howBuiltin at hh
      split at hh <;> cases hh
end

/-! edges, pairs -/
theorem testBit_shl1 (j k : Nat) : Nat.testBit (Nat.shiftLeft 1 k) j = decide (j = k) := by
  show Nat.testBit (1 <<< k) j = _
  rw [Nat.shiftLeft_eq, Nat.one_mul, Nat.testBit_two_pow]
  exact decide_eq_decide.2 ⟨fun h => h.symm, fun h => h.symm⟩
theorem mask_fold (an : List Nat) (j : Nat) : ∀ (es : List Edge) (s : Nat),
    Nat.testBit (es.foldl (fun s e => bif Region.binds .any e then Nat.lor (Nat.lor s (Nat.shiftLeft 1 e.on)) ((nth an e.on).getD 0) else s) s) j = true ↔
      Nat.testBit s j = true ∨ ∃ e ∈ es, Region.binds .any e = true ∧ (e.on = j ∨ Nat.testBit ((nth an e.on).getD 0) j = true)
  | [], s => by simp
  | e :: es, s => by
    rw [List.foldl_cons, mask_fold an j es]
    cases hb : Region.binds .any e
    · simp [hb]
    · have e1 : Nat.testBit (Nat.lor (Nat.lor s (Nat.shiftLeft 1 e.on)) ((nth an e.on).getD 0)) j = (Nat.testBit s j || decide (j = e.on) || Nat.testBit ((nth an e.on).getD 0) j) := by
        show Nat.testBit ((s ||| Nat.shiftLeft 1 e.on) ||| (nth an e.on).getD 0) j = _
        rw [Nat.testBit_or, Nat.testBit_or, testBit_shl1]
      simp only [cond_true, e1, Bool.or_eq_true, decide_eq_true_eq]
      constructor
      · rintro (((h | h) | h) | ⟨e', h1, h2⟩)
        · exact .inl h
        · exact .inr ⟨e, by simp, hb, .inl h.symm⟩
        · exact .inr ⟨e, by simp, hb, .inr h⟩
        · exact .inr ⟨e', by simp [h1], h2⟩
      · rintro (h | ⟨e', h1, h2, h3⟩)
        · exact .inl (.inl (.inl h))
        · rcases List.mem_cons.1 h1 with rfl | h1
          · rcases h3 with h3 | h3
            · exact .inl (.inl (.inr h3.symm))
            · exact .inl (.inr h3)
          · exact .inr ⟨e', h1, h2, h3⟩
theorem mask_spec (an : List Nat) (o : Oper) (j : Nat) : Nat.testBit (maskOf an o) j = true ↔ ∃ e ∈ o.after.toList, Region.binds .any e = true ∧ (e.on = j ∨ Nat.testBit ((nth an e.on).getD 0) j = true) := by
  unfold maskOf
  rw [mask_fold]
  simp
theorem pairs_spec (ops : List Oper) (o : Oper) (c m : Nat) : ∀ (xs : List Oper) (ks : List Nat) (i : Nat), pairsOk ops o c m i xs ks = true → ∀ j x k, xs[j]? = some x → ks[j]? = some k →
    Nat.testBit m (i + j) = true ∨ (apartV ops x o = true ∧ (c = 2 → k = 0) ∧ (k = 2 → c = 0))
  | [], _, _, _, j, x, k, h, _ => by simp at h
  | _ :: _, [], _, _, j, x, k, _, h => by simp at h
  | y :: xs, q :: ks, i, h, j, x, k, h1, h2 => by
    simp only [pairsOk, Bool.and_eq_true] at h
    cases j with
    | zero =>
      simp at h1 h2
      subst h1; subst h2
      have := h.1
      simp only [Bool.or_eq_true, Bool.and_eq_true, Bool.not_eq_true', Bool.and_eq_false_iff] at this
      rcases this with h | ⟨⟨h, h'⟩, h''⟩
      · exact .inl h
      · refine .inr ⟨h, fun e => ?_, fun e => ?_⟩
        · subst e
          rcases h' with h' | h'
          · simp at h'
          · simpa using h'
        · subst e
          rcases h'' with h' | h'
          · simp at h'
          · simpa using h'
    | succ j =>
      have := pairs_spec ops o c m xs ks (i + 1) h.2 j x k (by simpa using h1) (by simpa using h2)
      rwa [show i + 1 + j = i + (j + 1) by omega] at this
theorem apart_spec {ops : List Oper} {x y : Oper} (h : apartV ops x y = true) : (∀ d, x.dst = some d → d ∉ lookV ops y ∧ y.dst ≠ some d) ∧ (∀ d, y.dst = some d → d ∉ lookV ops x) := by
  unfold apartV at h
  simp only [Bool.and_eq_true] at h
  constructor
  · intro d hd
    have h1 := h.1
    rw [hd] at h1
    simp only [Bool.and_eq_true, List.all_eq_true] at h1
    refine ⟨fun hm => by have := h1.1 d hm; simp at this, fun e => ?_⟩
    have h2 := h1.2
    rw [e] at h2
    simp at h2
  · intro d hd
    have h1 := h.2
    rw [hd] at h1
    simp only [List.all_eq_true] at h1
    exact fun hm => by have := h1 d hm; simp at this
theorem look_op {ops : List Oper} {o : Oper} {t : Tmp} (h : .tmp t ∈ o.op.operands.toList) : t ∈ lookV ops o := by
  unfold lookV
  rw [List.mem_append]
  left
  rw [List.mem_filterMap]
  exact ⟨.tmp t, h, rfl⟩
theorem look_guard {ops : List Oper} {o : Oper} {j : Nat} {b : Bool} (h : o.guard = some (j, b)) {g : Oper} (hg : nth ops j = some g) {d : Tmp} (hd : g.dst = some d) : d ∈ lookV ops o := by
  unfold lookV
  rw [List.mem_append]
  right
  rw [h]
  simp [hg, hd]
/-- an operation sees the slots that it looks at -/
theorem ev_look {ops : List Oper} {o : Oper} {fr fr' : Fr} (h : ∀ t ∈ lookV ops o, nth fr t = nth fr' t) : ∀ x ∈ o.op.operands, ev fr x = ev fr' x := by
  intro x hx
  cases x with
  | tmp t => exact h t (look_op (by simpa using hx))
  | const v => rfl
  | global g => rfl
  | func f => rfl
theorem wanted_look {ops : List Oper} {o : Oper} {fr fr' : Fr} (h : ∀ t ∈ lookV ops o, nth fr t = nth fr' t) : wantedV ops o fr = wantedV ops o fr' := by
  unfold wantedV
  cases hg : o.guard with
  | none => rfl
  | some g =>
    obtain ⟨j, b⟩ := g
    have : yieldedV ops fr j = yieldedV ops fr' j := by
      unfold yieldedV
      cases hj : nth ops j with
      | none => rfl
      | some q =>
        simp only [ob_some']
        cases hd : q.dst with
        | none => rfl
        | some d => simp only [ob_some', h d (look_guard hg hj hd)]
    simp only [this]

theorem guard_look' {ops : List Oper} {o : Oper} {fr fr' : Fr} (h : ∀ t ∈ lookV ops o, nth fr t = nth fr' t) : guardOk ops o fr = guardOk ops o fr' := by
  unfold guardOk
  cases hg : o.guard with
  | none => rfl
  | some g =>
    obtain ⟨j, b⟩ := g
    cases hj : nth ops j with
    | none => simp only [hj]
    | some q =>
      cases hd : q.dst with
      | none => simp only [hj, hd]
      | some d => simp only [hj, hd, h d (look_guard hg hj hd)]

/-- a load from a memory that stays -/
def Fre (C : Ctx) (fr : Fr) (h0 : Heap) (o : Oper) (l : Nat) (v : V) : Prop := ∃ t x T off cs y, o.op = .load t x ∧ C.ty t = some T ∧ evPtr fr x = some (l, off) ∧ h0.read l off T.size = some cs ∧ T.mk' cs = some y ∧ v = .a y
/-- one step of the machine at a region that draws; 'q': the block of a load that may come at any time -/
structure Step (C : Ctx) (fl : Nat) (ops : List Oper) (h0 : Heap) (σ : RS) (o : Oper) (m : Nat) (σ' : RS) (k : Nat) (v : V) (D : Hp) (h' : Heap) (q : Option Nat) : Prop where
  edges : edgesOk σ.os.length o = true
  guard : guardOk ops o σ.fr = true
  pairs : pairsOk ops o k m 0 σ.os σ.cl = true
  fr : σ'.fr = putV σ.fr o.dst v
  an : σ'.an = σ.an ++ [m]
  cl : σ'.cl = σ.cl ++ [k]
  os : σ'.os = σ.os ++ [o]
  nx : σ.nx ≤ σ'.nx
  kind : (k = 0 ∧ D = [] ∧ σ'.hb = σ.hb ∧ σ'.ds = σ.ds ++ [[]] ∧ σ'.nx = σ.nx ∧ ((wantedV ops o σ.fr = false ∧ v = undef) ∨ (wantedV ops o σ.fr = true ∧ ∃ h hw fl, how C σ.fr h hw fl o.op = .p (some v)) ∨ (wantedV ops o σ.fr = true ∧ ∃ l, q = some l ∧ Fre C σ.fr h0 o l v))) ∨
    (k = 1 ∧ D = newD σ.nx h'.m ∧ σ'.hb = σ.hb ∧ σ'.ds = σ.ds ++ [D] ∧ σ'.nx = h'.next ∧ wantedV ops o σ.fr = true ∧
      ∃ w, how C σ.fr ⟨selD m 0 σ.ds ++ σ.hb, σ.nx⟩ ⟨σ.ds.flatten ++ σ.hb, σ.nx⟩ fl o.op = w ∧
        (w = .q (some (v, h')) ∨ (∃ r, w = .qw (some (v, h')) r) ∨ ∃ f as, w = .c f as ∧ callOp C σ.fr ⟨selD m 0 σ.ds ++ σ.hb, σ.nx⟩ σ.nx f as = some (v, h'))) ∨
    (k = 2 ∧ D = [] ∧ σ'.hb = h'.m ∧ σ'.ds = (σ.ds ++ [[]]).map (fun _ => []) ∧ σ'.nx = h'.next ∧ wantedV ops o σ.fr = true ∧
      ∃ w, how C σ.fr ⟨selD m 0 σ.ds ++ σ.hb, σ.nx⟩ ⟨σ.ds.flatten ++ σ.hb, σ.nx⟩ fl o.op = w ∧
        (w = .w (some (v, h')) ∨ (∃ r, w = .qw r (some (v, h'))) ∨ ∃ f as, w = .c f as ∧ callOp C σ.fr ⟨σ.ds.flatten ++ σ.hb, σ.nx⟩ fl f as = some (v, h')))
theorem endP_some {C : Ctx} {fl : Nat} {ops : List Oper} {h0 : Heap} {q : Option Nat} {σ σ' : RS} {o : Oper} {m : Nat} {v : V} (he : edgesOk σ.os.length o = true) (hgo : guardOk ops o σ.fr = true) (h : endP ops σ o m v = some σ')
    (hk : (wantedV ops o σ.fr = false ∧ v = undef) ∨ (wantedV ops o σ.fr = true ∧ ∃ h hw fl, how C σ.fr h hw fl o.op = .p (some v)) ∨ (wantedV ops o σ.fr = true ∧ ∃ l, q = some l ∧ Fre C σ.fr h0 o l v)) : Step C fl ops h0 σ o m σ' 0 v [] ⟨[], 0⟩ q := by
  unfold endP at h
  cases hp : pairsOk ops o 0 m 0 σ.os σ.cl <;> rw [hp] at h <;> cases h
  exact ⟨he, hgo, hp, rfl, rfl, rfl, rfl, Nat.le_refl _, .inl ⟨rfl, rfl, rfl, rfl, rfl, hk⟩⟩
theorem step_some {C : Ctx} {fl : Nat} {ops : List Oper} (h0 : Heap) {σ σ' : RS} {o : Oper} {m : Nat} (h : stepD C fl ops σ o m = some σ') : ∃ k v D h', Step C fl ops h0 σ o m σ' k v D h' none := by
  unfold stepD at h
  cases heg : (edgesOk σ.os.length o && guardOk ops o σ.fr) <;> rw [heg] at h <;> simp only [cond_true, cond_false] at h
  · cases h
  obtain ⟨he, hgo⟩ : edgesOk σ.os.length o = true ∧ guardOk ops o σ.fr = true := by simpa using heg
  cases hw : wantedV ops o σ.fr <;> rw [hw] at h <;> simp only [cond_true, cond_false] at h
  · exact ⟨_, _, _, _, endP_some he hgo h (.inl ⟨hw, rfl⟩)⟩
  have hQ : ∀ {v : V} {h' : Heap}, endQ ops σ o m (v, h') = some σ' → (∃ w, how C σ.fr ⟨selD m 0 σ.ds ++ σ.hb, σ.nx⟩ ⟨σ.ds.flatten ++ σ.hb, σ.nx⟩ fl o.op = w ∧
        (w = .q (some (v, h')) ∨ (∃ r, w = .qw (some (v, h')) r) ∨ ∃ f as, w = .c f as ∧ callOp C σ.fr ⟨selD m 0 σ.ds ++ σ.hb, σ.nx⟩ σ.nx f as = some (v, h'))) → ∃ k v D h', Step C fl ops h0 σ o m σ' k v D h' none := by
    intro v h' hq hk
    unfold endQ at hq
    cases hp : (pairsOk ops o 1 m 0 σ.os σ.cl && Nat.ble σ.nx h'.next) <;> simp only [hp] at hq <;> cases hq
    simp only [Bool.and_eq_true] at hp
    exact ⟨1, v, _, h', he, hgo, hp.1, rfl, rfl, rfl, rfl, Nat.le_of_ble_eq_true hp.2, .inr (.inl ⟨rfl, rfl, rfl, rfl, rfl, hw, hk⟩)⟩
  have hW : ∀ {v : V} {h' : Heap}, endW ops σ o m (v, h') = some σ' → (∃ w, how C σ.fr ⟨selD m 0 σ.ds ++ σ.hb, σ.nx⟩ ⟨σ.ds.flatten ++ σ.hb, σ.nx⟩ fl o.op = w ∧
        (w = .w (some (v, h')) ∨ (∃ r, w = .qw r (some (v, h'))) ∨ ∃ f as, w = .c f as ∧ callOp C σ.fr ⟨σ.ds.flatten ++ σ.hb, σ.nx⟩ fl f as = some (v, h'))) → ∃ k v D h', Step C fl ops h0 σ o m σ' k v D h' none := by
    intro v h' hq hk
    unfold endW at hq
    cases hp : (pairsOk ops o 2 m 0 σ.os σ.cl && Nat.ble σ.nx h'.next) <;> simp only [hp] at hq <;> cases hq
    simp only [Bool.and_eq_true] at hp
    exact ⟨2, v, _, h', he, hgo, hp.1, rfl, rfl, rfl, rfl, Nat.le_of_ble_eq_true hp.2, .inr (.inr ⟨rfl, rfl, rfl, rfl, rfl, hw, hk⟩)⟩
  unfold runD at h
  cases hh : how C σ.fr ⟨selD m 0 σ.ds ++ σ.hb, σ.nx⟩ ⟨σ.ds.flatten ++ σ.hb, σ.nx⟩ fl o.op with
  | p x =>
    rw [hh] at h
    obtain ⟨v, rfl, h⟩ := ob_some h
    exact ⟨_, _, _, _, endP_some he hgo h (.inr (.inl ⟨hw, _, _, _, hh⟩))⟩
  | q x =>
    rw [hh] at h
    obtain ⟨v, rfl, h⟩ := ob_some h
    exact hQ h ⟨_, hh, .inl rfl⟩
  | w x =>
    rw [hh] at h
    obtain ⟨v, rfl, h⟩ := ob_some h
    exact hW h ⟨_, hh, .inl rfl⟩
  | qw x y =>
    rw [hh] at h
    cases x with
    | some x => exact hQ h ⟨_, hh, .inr (.inl ⟨_, rfl⟩)⟩
    | none =>
      obtain ⟨v, rfl, h⟩ := ob_some (show ob y (endW ops σ o m) = some σ' from h)
      exact hW h ⟨_, hh, .inr (.inl ⟨_, rfl⟩)⟩
  | c f as =>
    rw [hh] at h
    cases hc : callOp C σ.fr ⟨selD m 0 σ.ds ++ σ.hb, σ.nx⟩ σ.nx f as with
    | some x => simp only [hc] at h; exact hQ h ⟨_, hh, .inr (.inr ⟨f, as, rfl, hc⟩)⟩
    | none =>
      simp only [hc] at h
      obtain ⟨v, hv, h⟩ := ob_some (show ob (callOp C σ.fr ⟨σ.ds.flatten ++ σ.hb, σ.nx⟩ fl f as) (endW ops σ o m) = some σ' from h)
      exact hW h ⟨_, hh, .inr (.inr ⟨f, as, rfl, hv⟩)⟩
/-- all steps -/
theorem any_steps {C : Ctx} {fl : Nat} {ops : List Oper} : ∀ (l : List Oper) (σ σ' : RS), anyR C fl ops l σ = some σ' →
    ∃ st : Nat → RS, st 0 = σ ∧ st l.length = σ' ∧ ∀ i o, l[i]? = some o → stepD C fl ops (st i) o (maskOf (st i).an o) = some (st (i + 1))
  | [], σ, σ', h => by cases h; exact ⟨fun _ => σ, rfl, rfl, fun i o h => by simp at h⟩
  | o :: l, σ, σ', h => by
    obtain ⟨σ1, h1, h2⟩ := ob_some (show ob (stepD C fl ops σ o (maskOf σ.an o)) (anyR C fl ops l) = some σ' from h)
    obtain ⟨st, e0, e1, e2⟩ := any_steps l σ1 σ' h2
    refine ⟨fun i => match i with | 0 => σ | i + 1 => st i, rfl, e1, fun i q hq => ?_⟩
    cases i with
    | zero => simp at hq; subst hq; simp only [e0]; exact h1
    | succ i => exact e2 i q (by simpa using hq)
end Go.Proofs.Ytbebbbclhgjcbaa.Am
/-! Regions whose order is drawn: what all steps of the machine tell. (No program in sight.) -/
namespace Go.Proofs.Ytbebbbclhgjcbaa.Am
set_option linter.unusedSectionVars false
noncomputable section
variable [Base]

structure Tr (C : Ctx) (fl : Nat) (ops : List Oper) (fr0 : Fr) (h0 : Heap) where
  st : Nat → RS
  k : Nat → Nat
  v : Nat → V
  D : Nat → Hp
  H : Nat → Heap
  q : Nat → Option Nat
  st0 : st 0 = ⟨fr0, h0.m, [], [], [], [], h0.next⟩
  step : ∀ i o, ops[i]? = some o → Step C fl ops h0 (st i) o (maskOf (st i).an o) (st (i + 1)) (k i) (v i) (D i) (H i) (q i)

theorem Tr.make {C : Ctx} {fl : Nat} {ops : List Oper} {fr0 : Fr} {h0 : Heap} {σ : RS} (h : anyR C fl ops ops ⟨fr0, h0.m, [], [], [], [], h0.next⟩ = some σ) : ∃ T : Tr C fl ops fr0 h0, T.st ops.length = σ ∧ ∀ i, T.q i = none := by
  obtain ⟨st, e0, e1, e2⟩ := any_steps ops _ _ h
  have : ∀ i, ∃ q : Nat × V × Hp × Heap, ∀ o, ops[i]? = some o → Step C fl ops h0 (st i) o (maskOf (st i).an o) (st (i + 1)) q.1 q.2.1 q.2.2.1 q.2.2.2 none := fun i => by
    cases ho : ops[i]? with
    | none => exact ⟨(0, undef, [], ⟨[], 0⟩), fun o h => by cases h⟩
    | some o =>
      obtain ⟨k, v, D, h', hs⟩ := step_some h0 (e2 i o ho)
      exact ⟨(k, v, D, h'), fun o' h => by cases h; exact hs⟩
  obtain ⟨f, hf⟩ := Classical.skolem.1 this
  exact ⟨⟨st, fun i => (f i).1, fun i => (f i).2.1, fun i => (f i).2.2.1, fun i => (f i).2.2.2, fun _ => none, e0, hf⟩, e1, fun _ => rfl⟩

section
variable {C : Ctx} {fl : Nat} {ops : List Oper} {fr0 : Fr} {h0 : Heap} (T : Tr C fl ops fr0 h0)

def Tr.m (i : Nat) : Nat := match ops[i]? with | some o => maskOf (T.st i).an o | none => 0
def Tr.nx (i : Nat) : Nat := (T.st i).nx
/-- the last listed operation that writes, and one on -/
def Tr.ep (L : Nat → Bool) : Nat → Nat
  | 0 => 0
  | i + 1 => if L i = true ∧ T.k i = 2 then i + 1 else Tr.ep L i
def every (_ : Nat) : Bool := true
def Tr.dst (_ : Tr C fl ops fr0 h0) (i : Nat) : Option Tmp := (ops[i]?).bind (·.dst)
/-- what stands in a slot, and how far its blocks go -/
def Tr.slot (L : Nat → Bool) : Nat → Nat → Option (V × Nat)
  | 0, t => (nth fr0 t).map fun v => (v, T.nx 0)
  | i + 1, t => if L i = true ∧ T.dst i = some t ∧ t < fr0.length then some (T.v i, T.nx (i + 1)) else Tr.slot L i t

theorem Tr.D_nil {i : Nat} (hi : i < ops.length) (h : T.k i ≠ 1) : T.D i = [] := by
  rcases (T.step i ops[i] (List.getElem?_eq_getElem hi)).kind with g | g | g
  · exact g.2.1
  · exact absurd g.1 h
  · exact g.2.1
theorem Tr.os : ∀ i, i ≤ ops.length → (T.st i).os = ops.take i
  | 0, _ => by rw [T.st0]; simp
  | i + 1, h => by
    have hi : i < ops.length := h
    rw [(T.step i ops[i] (List.getElem?_eq_getElem hi)).os, Tr.os i (by omega), List.take_succ_eq_append_getElem hi]
theorem Tr.an : ∀ i, i ≤ ops.length → (T.st i).an.length = i ∧ ∀ j, j < i → (T.st i).an[j]? = some (T.m j)
  | 0, _ => by rw [T.st0]; exact ⟨rfl, fun j hj => by omega⟩
  | i + 1, h => by
    have hi : i < ops.length := h
    have ho : ops[i]? = some ops[i] := List.getElem?_eq_getElem hi
    obtain ⟨h1, h2⟩ := Tr.an i (by omega)
    rw [(T.step i ops[i] ho).an]
    refine ⟨by simp [h1], fun j hj => ?_⟩
    by_cases e : j = i
    · subst e
      rw [List.getElem?_append_right (by omega), h1]
      simp [Tr.m, ho]
    · rw [List.getElem?_append_left (by omega)]
      exact h2 j (by omega)
theorem Tr.cl : ∀ i, i ≤ ops.length → (T.st i).cl.length = i ∧ ∀ j, j < i → (T.st i).cl[j]? = some (T.k j)
  | 0, _ => by rw [T.st0]; exact ⟨rfl, fun j hj => by omega⟩
  | i + 1, h => by
    have hi : i < ops.length := h
    have ho : ops[i]? = some ops[i] := List.getElem?_eq_getElem hi
    obtain ⟨h1, h2⟩ := Tr.cl i (by omega)
    rw [(T.step i ops[i] ho).cl]
    refine ⟨by simp [h1], fun j hj => ?_⟩
    by_cases e : j = i
    · subst e
      rw [List.getElem?_append_right (by omega), h1]
      simp
    · rw [List.getElem?_append_left (by omega)]
      exact h2 j (by omega)
theorem Tr.nx_le {i j : Nat} (hij : i ≤ j) (hj : j ≤ ops.length) : T.nx i ≤ T.nx j := by
  induction j with
  | zero => obtain rfl : i = 0 := by omega
            exact Nat.le_refl _
  | succ j ih =>
    by_cases e : i = j + 1
    · rw [e]; exact Nat.le_refl _
    · exact Nat.le_trans (ih (by omega) (by omega)) (T.step j ops[j] (List.getElem?_eq_getElem (by omega))).nx
theorem Tr.ep_le (L : Nat → Bool) : ∀ i, T.ep L i ≤ i
  | 0 => Nat.le_refl _
  | i + 1 => by
    unfold Tr.ep
    have := Tr.ep_le L i
    split <;> omega
/-- the same writers: the same epoch -/
theorem Tr.ep_congr {L L' : Nat → Bool} : ∀ {i : Nat}, (∀ j, j < i → T.k j = 2 → L j = L' j) → T.ep L i = T.ep L' i
  | 0, _ => rfl
  | i + 1, h => by
    unfold Tr.ep
    rw [Tr.ep_congr fun j hj hk => h j (by omega) hk]
    by_cases hk : T.k i = 2
    · rw [h i (by omega) hk]
    · simp [hk]
theorem Tr.ep_tail {L : Nat → Bool} {i : Nat} : ∀ {n : Nat}, i ≤ n → (∀ j, i ≤ j → j < n → T.k j = 2 → L j = false) → T.ep L n = T.ep L i
  | 0, h, _ => by obtain rfl : i = 0 := by omega
                  rfl
  | n + 1, h, hn => by
    by_cases e : i = n + 1
    · rw [e]
    · have : ¬ (L n = true ∧ T.k n = 2) := fun ⟨h1, h2⟩ => by rw [hn n (by omega) (by omega) h2] at h1; cases h1
      conv => lhs; unfold Tr.ep
      rw [if_neg this]
      exact Tr.ep_tail (by omega) fun j h1 h2 h3 => hn j h1 (by omega) h3
theorem Tr.hb : ∀ i, i ≤ ops.length → (T.st i).hb = (T.st (T.ep every i)).hb
  | 0, _ => rfl
  | i + 1, h => by
    have hi : i < ops.length := h
    have hs := T.step i ops[i] (List.getElem?_eq_getElem hi)
    unfold Tr.ep
    by_cases hk : T.k i = 2
    · rw [if_pos ⟨rfl, hk⟩]
    · rw [if_neg (fun h => hk h.2), ← Tr.hb i (by omega)]
      rcases hs.kind with g | g | g
      · exact g.2.2.1
      · exact g.2.2.1
      · exact absurd g.1 hk
theorem Tr.ds : ∀ i, i ≤ ops.length → (T.st i).ds.length = i ∧ ∀ j, j < i → (T.st i).ds[j]? = some (if T.ep every i ≤ j then T.D j else [])
  | 0, _ => by rw [T.st0]; exact ⟨rfl, fun j hj => by omega⟩
  | i + 1, h => by
    have hi : i < ops.length := h
    have hs := T.step i ops[i] (List.getElem?_eq_getElem hi)
    obtain ⟨h1, h2⟩ := Tr.ds i (by omega)
    have key : ∀ X : Hp, T.k i ≠ 2 → (T.st (i + 1)).ds = (T.st i).ds ++ [X] → X = T.D i → (T.st (i + 1)).ds.length = i + 1 ∧ ∀ j, j < i + 1 → (T.st (i + 1)).ds[j]? = some (if T.ep every (i + 1) ≤ j then T.D j else []) := by
      intro X hk e eX
      rw [e]
      refine ⟨by simp [h1], fun j hj => ?_⟩
      have hep : T.ep every (i + 1) = T.ep every i := by conv => lhs; unfold Tr.ep
                                                         rw [if_neg (fun h => hk h.2)]
      rw [hep]
      by_cases ej : j = i
      · subst ej
        rw [List.getElem?_append_right (by omega), h1, eX, if_pos (T.ep_le _ _)]
        simp
      · rw [List.getElem?_append_left (by omega)]
        exact h2 j (by omega)
    rcases hs.kind with g | g | g
    · exact key [] (by omega) g.2.2.2.1 g.2.1.symm
    · exact key _ (by omega) g.2.2.2.1 rfl
    · rw [g.2.2.2.1]
      refine ⟨by simp [h1], fun j hj => ?_⟩
      have hep : T.ep every (i + 1) = i + 1 := by unfold Tr.ep; rw [if_pos ⟨rfl, g.1⟩]
      rw [hep, if_neg (by omega), List.getElem?_map, List.getElem?_eq_getElem (by simp; omega)]
      rfl
theorem Tr.pair {i j : Nat} (hj : j < i) (hi : i < ops.length) {x y : Oper} (hx : ops[j]? = some x) (hy : ops[i]? = some y) :
    Nat.testBit (T.m i) j = true ∨ (apartV ops x y = true ∧ (T.k i = 2 → T.k j = 0) ∧ (T.k j = 2 → T.k i = 0)) := by
  have hs := T.step i y hy
  have h1 : (T.st i).os[j]? = some x := by rw [T.os i (by omega), List.getElem?_take_of_lt hj]; exact hx
  have := pairs_spec ops y _ _ _ _ 0 hs.pairs j x (T.k j) h1 ((T.cl i (by omega)).2 j hj)
  rw [Nat.zero_add] at this
  have hm : T.m i = maskOf (T.st i).an y := by simp [Tr.m, hy]
  rwa [hm]
theorem Tr.frame : ∀ i, i ≤ ops.length → (T.st i).fr.length = fr0.length ∧ ∀ t, nth (T.st i).fr t = (T.slot every i t).map (·.1)
  | 0, _ => by
    rw [T.st0]
    refine ⟨rfl, fun t => ?_⟩
    show nth fr0 t = _
    unfold Tr.slot
    cases nth fr0 t <;> rfl
  | i + 1, h => by
    have hi : i < ops.length := h
    have ho : ops[i]? = some ops[i] := List.getElem?_eq_getElem hi
    have hs := T.step i ops[i] ho
    obtain ⟨h1, h2⟩ := Tr.frame i (by omega)
    rw [hs.fr]
    have hd : T.dst i = ops[i].dst := by simp [Tr.dst, ho]
    cases hdd : ops[i].dst with
    | none =>
      refine ⟨h1, fun t => ?_⟩
      show nth (T.st i).fr t = _
      conv => rhs; unfold Tr.slot
      rw [hd, hdd, if_neg (by simp)]
      exact h2 t
    | some d =>
      refine ⟨?_, fun t => ?_⟩
      · show (upd (T.st i).fr d (T.v i)).length = _
        rw [upd_eq]; simpa using h1
      · show nth (upd (T.st i).fr d (T.v i)) t = _
        rw [upd_eq, nth_eq, List.getElem?_set]
        conv => rhs; unfold Tr.slot
        rw [hd, hdd, h1]
        by_cases e : d = t
        · subst e
          by_cases hl : d < fr0.length
          · simp [hl, every]
          · have h2d := h2 d
            rw [nth_eq, List.getElem?_eq_none (by rw [h1]; exact Nat.le_of_not_lt hl)] at h2d
            simp only [hl, if_false, if_true, and_false]
            exact h2d
        · have e' : ¬ (some d = some t) := by simpa using e
          simp only [e, if_false, e', false_and, and_false]
          rw [← h2 t, nth_eq]
/-- a slot that is looked at holds what it holds in the text's order -/
theorem Tr.slot_look {L : Nat → Bool} {i : Nat} (hi : i < ops.length) {o : Oper} (ho : ops[i]? = some o) (hLi : L i = false) (hdc : ∀ p q, L p = true → p < ops.length → Nat.testBit (T.m p) q = true → L q = true)
    (hr : ∀ q, Nat.testBit (T.m i) q = true → L q = true) {t : Nat} (ht : t ∈ lookV ops o) : T.slot L ops.length t = T.slot every i t := by
  have h1 : ∀ n, i ≤ n → n ≤ ops.length → T.slot L n t = T.slot L i t := by
    intro n
    induction n with
    | zero => intro h _; obtain rfl : i = 0 := by omega
              rfl
    | succ n ih =>
      intro h hn
      by_cases e : i = n + 1
      · rw [e]
      · rw [← ih (by omega) (by omega)]
        conv => lhs; unfold Tr.slot
        rw [if_neg]
        rintro ⟨g1, g2, _⟩
        by_cases e' : n = i
        · subst e'; rw [hLi] at g1; cases g1
        · have hn' : n < ops.length := by omega
          have hx : ops[n]? = some ops[n] := List.getElem?_eq_getElem hn'
          rcases T.pair (show i < n by omega) hn' ho hx with g | ⟨g, _⟩
          · have := hdc n i g1 hn' g
            rw [hLi] at this; cases this
          · have gd : ops[n].dst = some t := by simpa [Tr.dst, hx] using g2
            exact (apart_spec g).2 t gd ht
  have h2 : ∀ n, n ≤ i → T.slot L n t = T.slot every n t := by
    intro n
    induction n with
    | zero => intro _; rfl
    | succ n ih =>
      intro hn
      unfold Tr.slot
      rw [ih (by omega)]
      by_cases g : T.dst n = some t ∧ t < fr0.length
      · have hx : ops[n]? = some ops[n] := List.getElem?_eq_getElem (by omega)
        have hL : L n = true := by
          rcases T.pair (show n < i by omega) hi hx ho with g' | ⟨g', _⟩
          · exact hr n g'
          · have gd : ops[n].dst = some t := by simpa [Tr.dst, hx] using g.1
            exact absurd ht ((apart_spec g').1 t gd).1
        rw [hL]
        rfl
      · rw [if_neg (fun h => g h.2), if_neg (fun h => g h.2)]
  rw [h1 ops.length (by omega) (Nat.le_refl _), h2 i (Nat.le_refl _)]
/-- the slot that is written holds what was written; the others are as they were -/
theorem Tr.slot_put {L : Nat → Bool} {i : Nat} (hi : i < ops.length) {o : Oper} (ho : ops[i]? = some o) (hLi : L i = false) (hdc : ∀ p q, L p = true → p < ops.length → Nat.testBit (T.m p) q = true → L q = true) (t : Nat) :
    T.slot (fun j => if j = i then true else L j) ops.length t = if o.dst = some t ∧ t < fr0.length then some (T.v i, T.nx (i + 1)) else T.slot L ops.length t := by
  have hd : T.dst i = o.dst := by simp [Tr.dst, ho]
  have h2 : ∀ n, n ≤ i → T.slot (fun j => if j = i then true else L j) n t = T.slot L n t := by
    intro n
    induction n with
    | zero => intro _; rfl
    | succ n ih =>
      intro hn
      unfold Tr.slot
      rw [ih (by omega)]
      simp only [show n ≠ i by omega, if_false]
  have h1 : ∀ n, i < n → n ≤ ops.length → T.slot (fun j => if j = i then true else L j) n t = if o.dst = some t ∧ t < fr0.length then some (T.v i, T.nx (i + 1)) else T.slot L n t := by
    intro n
    induction n with
    | zero => intro h _; omega
    | succ n ih =>
      intro h hn
      by_cases e : n = i
      · subst e
        conv => lhs; unfold Tr.slot
        conv => rhs; unfold Tr.slot
        rw [h2 n (Nat.le_refl _), hd]
        simp [hLi]
      · have hn' : n < ops.length := by omega
        have hx : ops[n]? = some ops[n] := List.getElem?_eq_getElem hn'
        conv => lhs; unfold Tr.slot
        conv => rhs; unfold Tr.slot
        rw [ih (by omega) (by omega)]
        simp only [e, if_false]
        by_cases g : L n = true ∧ T.dst n = some t ∧ t < fr0.length
        · rw [if_pos g]
          have hno : ¬ (o.dst = some t ∧ t < fr0.length) := by
            rintro ⟨g1, _⟩
            rcases T.pair (show i < n by omega) hn' ho hx with g' | ⟨g', _⟩
            · have := hdc n i g.1 hn' g'
              rw [hLi] at this; cases this
            · have gd : ops[n].dst = some t := by simpa [Tr.dst, hx] using g.2.1
              exact ((apart_spec g').1 t g1).2 gd
          rw [if_neg hno, if_pos g]
        · rw [if_neg g, if_neg g]
  exact h1 ops.length hi (Nat.le_refl _)
theorem Tr.slot_scope {L : Nat → Bool} : ∀ {i : Nat}, i ≤ ops.length → ∀ {t : Nat} {v : V} {q : Nat}, T.slot L i t = some (v, q) → q ≤ T.nx i
  | 0, _, t, v, q, h => by
    unfold Tr.slot at h
    cases hn : nth fr0 t <;> rw [hn] at h <;> cases h
    exact Nat.le_refl _
  | i + 1, hi, t, v, q, h => by
    unfold Tr.slot at h
    split at h
    · cases h; exact Nat.le_refl _
    · exact Nat.le_trans (Tr.slot_scope (by omega) h) (T.nx_le (by omega) hi)
end
end
end Go.Proofs.Ytbebbbclhgjcbaa.Am
/-! Regions whose order is drawn: every order comes to the same. (No program in sight.) -/
namespace Go.Proofs.Ytbebbbclhgjcbaa.Am
set_option linter.unusedSectionVars false
set_option linter.unusedVariables false
variable [Base]

def Ren.cut (r : Ren) (n : Nat) : Ren := ⟨fun l => r.ok l ∧ l < n, r.blk, r.off, r.cap⟩
theorem Ren.cut_le (r : Ren) (n : Nat) : (r.cut n).le r := ⟨fun _ h => h.1, fun _ _ => rfl, fun _ _ => rfl, fun _ _ => rfl⟩
theorem Ren.le.cut {r r' : Ren} (h : r.le r') {n n' : Nat} (hn : n ≤ n') : (r.cut n).le (r'.cut n') :=
  ⟨fun l hl => ⟨h.n l hl.1, Nat.lt_of_lt_of_le hl.2 hn⟩, fun l hl => h.blk l hl.1, fun l hl => h.off l hl.1, fun l hl => h.cap l hl.1⟩
theorem VV.exact {r r' : Ren} (h : r.le r') {x : V} {v : Value} (k : VV r x v) : VV r' x v := VV.mono h k

theorem Hp.get_append (a b : Hp) (l : Nat) : Hp.get (a ++ b) l = match Hp.get a l with | some x => some x | none => Hp.get b l := by
  induction a with
  | nil => rfl
  | cons p a ih =>
    rw [List.cons_append, Hp.get_cons, Hp.get_cons]
    cases (p.1 == l)
    · exact ih
    · rfl
theorem get_newD (n : Nat) : ∀ (m : Hp) {l : Nat} {b : Blk}, Hp.get (newD n m) l = some b → Hp.get m l = some b ∧ n ≤ l
  | [], l, b, h => by cases h
  | p :: m, l, b, h => by
    unfold newD at h
    rw [List.filter_cons] at h
    cases hp : Nat.ble n p.1 <;> rw [hp] at h
    · simp only [Bool.false_eq_true, if_false] at h
      obtain ⟨h1, h2⟩ := get_newD n m h
      rw [Hp.get_cons]
      have : (p.1 == l) = false := by
        cases e : (p.1 == l)
        · rfl
        · have e' : p.1 = l := by simpa using e
          rw [e', Nat.ble_eq_true_of_le h2] at hp
          cases hp
      rw [this]
      exact ⟨h1, h2⟩
    · simp only [if_true] at h
      rw [Hp.get_cons] at h ⊢
      cases e : (p.1 == l) <;> rw [e] at h
      · exact get_newD n m h
      · have e' : p.1 = l := by simpa using e
        exact ⟨h, by rw [← e']; exact Nat.le_of_ble_eq_true hp⟩
/-- what stands in the parts that were taken stands in one of them -/
theorem get_selD (m : Nat) : ∀ (ds : List Hp) (i : Nat) {l : Nat} {b : Blk}, Hp.get (selD m i ds) l = some b → ∃ (j : Nat) (d : Hp), ds[j]? = some d ∧ Nat.testBit m (i + j) = true ∧ Hp.get d l = some b
  | [], i, l, b, h => by cases h
  | d :: ds, i, l, b, h => by
    unfold selD at h
    have rest : Hp.get (selD m (i + 1) ds) l = some b → ∃ (j : Nat) (d' : Hp), (d :: ds)[j]? = some d' ∧ Nat.testBit m (i + j) = true ∧ Hp.get d' l = some b := fun h => by
      obtain ⟨j, d', h1, h2, h3⟩ := get_selD m ds (i + 1) h
      exact ⟨j + 1, d', by simpa using h1, by rwa [show i + (j + 1) = i + 1 + j by omega], h3⟩
    cases hm : Nat.testBit m i <;> rw [hm] at h
    · exact rest h
    · simp only [cond_true] at h
      rw [Hp.get_append] at h
      cases hd : Hp.get d l with
      | none => rw [hd] at h; exact rest h
      | some x => rw [hd] at h; cases h; exact ⟨0, d, rfl, by simpa using hm, hd⟩
theorem get_flatten : ∀ (ds : List Hp) {l : Nat} {b : Blk}, Hp.get ds.flatten l = some b → ∃ (j : Nat) (d : Hp), ds[j]? = some d ∧ Hp.get d l = some b
  | [], l, b, h => by cases h
  | d :: ds, l, b, h => by
    rw [List.flatten_cons, Hp.get_append] at h
    cases hd : Hp.get d l with
    | none =>
      rw [hd] at h
      obtain ⟨j, d', h1, h2⟩ := get_flatten ds h
      exact ⟨j + 1, d', by simpa using h1, h2⟩
    | some x => rw [hd] at h; cases h; exact ⟨0, d, rfl, hd⟩
section
variable {P : Program} {C : Ctx} {fl : Nat} {ops : List Oper} {s0 : St} (T : Tr C fl ops s0.fr s0.h)

/-- the blocks that the machine has when those operations are done -/
def PL (L : Nat → Bool) (l : Nat) (b : Blk) : Prop :=
  (∃ j, j < ops.length ∧ L j = true ∧ T.k j = 1 ∧ T.ep L ops.length ≤ j ∧ Hp.get (T.D j) l = some b) ∨ Hp.get (T.st (T.ep L ops.length)).hb l = some b

structure J (r0 : Ren) (B : Nat) (a0 : Act) (w0 : World) (L : Nat → Bool) (r : Ren) (a : Act) (W : World) : Prop where
  dc : ∀ p q, L p = true → p < ops.length → Nat.testBit (T.m p) q = true → L q = true
  len : a.tmps.size = s0.fr.length
  defers : a.defers = a0.defers
  slot : ∀ t v q, T.slot L ops.length t = some (v, q) → ∃ u, a.tmps[t]? = some u ∧ VV (r.cut q) v u
  b : B ≤ W.heap.size
  base : HR (Hp.get (T.st (T.ep L ops.length)).hb) (r.cut (T.nx (T.ep L ops.length))) B W
  part : ∀ j, j < ops.length → L j = true → T.k j = 1 → T.ep L ops.length ≤ j → HR (Hp.get (T.D j)) (r.cut (T.nx (j + 1))) B W ∧ ∀ l b, Hp.get (T.D j) l = some b → T.nx j ≤ l
  inj : ∀ l b l' b', PL T L l b → b.own = true → PL T L l' b' → b'.own = true → r.blk l = r.blk l' → l = l'
  okk : ∀ l, r.ok l → l < T.nx (T.ep L ops.length) ∨ ∃ j, j < ops.length ∧ L j = true ∧ T.k j = 1 ∧ T.ep L ops.length ≤ j ∧ T.nx j ≤ l ∧ l < T.nx (j + 1)
  le : r0.le r
  okn : ∀ l, r.ok l → r0.ok l ∨ s0.h.next ≤ l
  os : W.os = w0.os
  tape : W.tape = w0.tape
  output : W.output = w0.output
  size : w0.heap.size ≤ W.heap.size
  frame : ∀ b, b < w0.heap.size → (∀ l k, s0.h.get l = some k → k.own = true → fl ≤ l → r0.blk l ≠ b) → W.heap[b]? = w0.heap[b]?
  keep : ∀ l, l < s0.h.next → l < fl → Hp.get (T.st (T.ep L ops.length)).hb l = s0.h.get l
  old : ∀ l b', l < s0.h.next → Hp.get (T.st (T.ep L ops.length)).hb l = some b' → ∃ b, s0.h.get l = some b ∧ b.own = b'.own
  fresh : ∀ l b', s0.h.next ≤ l → PL T L l b' → b'.own = true ∧ (w0.heap.size ≤ r.blk l ∨ ∃ l0 b0, s0.h.get l0 = some b0 ∧ b0.own = true ∧ fl ≤ l0 ∧ r.blk l = r0.blk l0)

theorem nx0 : T.nx 0 = s0.h.next := by simp [Tr.nx, T.st0]

variable {T} {r0 : Ren} {B : Nat} {a0 : Act} {w0 : World} {L : Nat → Bool} {r : Ren} {a : Act} {W : World}

theorem J.start (i : Inv s0.h r0 B w0) (f : FR r0 s0.fr a0) : J T r0 B a0 w0 (fun _ => false) r0 a0 w0.drew := by
  have hep : T.ep (fun _ => false) ops.length = 0 := by
    have : ∀ n, T.ep (fun _ => false) n = 0 := by
      intro n
      induction n with
      | zero => rfl
      | succ n ih => unfold Tr.ep; rw [if_neg (by simp)]; exact ih
    exact this _
  have hhb : (T.st 0).hb = s0.h.m := by rw [T.st0]
  have hsl : ∀ n t, T.slot (fun _ => false) n t = (nth s0.fr t).map fun v => (v, T.nx 0) := by
    intro n t
    induction n with
    | zero => rfl
    | succ n ih => unfold Tr.slot; rw [if_neg (by simp)]; exact ih
  have hcut : r0.le (r0.cut s0.h.next) := ⟨fun l hl => ⟨hl, i.n l hl⟩, fun _ _ => rfl, fun _ _ => rfl, fun _ _ => rfl⟩
  have hpl : ∀ l b, PL T (fun _ => false) l b → s0.h.get l = some b := fun l b h => by
    rcases h with ⟨j, _, h, _⟩ | h
    · cases h
    · rw [hep, hhb] at h; exact h
  refine ⟨fun p q h => (by cases h), ?_, rfl, fun t v q h => ?_, i.b, ?_, fun j _ h => (by cases h), fun l b l' b' h1 o1 h2 o2 e => ?_, fun l hl => ?_, Ren.le.refl _, fun _ h => .inl h, rfl, rfl, rfl, Nat.le_refl _, fun _ _ _ => rfl, fun l _ _ => ?_, fun l b' _ h => ?_, fun l b' hl h => ?_⟩
  · have := f.len; simp at this; omega
  · rw [hsl] at h
    cases hn : nth s0.fr t with
    | none => rw [hn] at h; cases h
    | some v' =>
      rw [hn] at h
      simp only [Option.map_some, Option.some.injEq, Prod.mk.injEq] at h
      obtain ⟨rfl, rfl⟩ := h
      obtain ⟨u, hu, hv⟩ := All2.nth f hn
      exact ⟨u, by simpa using hu, by rw [nx0]; exact VV.mono hcut hv⟩
  · rw [hep, hhb, nx0]
    exact (i.hr.mono hcut).keep i.b (fun _ _ => rfl)
  · exact i.hr.inj l b l' b' (hpl l b h1) o1 (hpl l' b' h2) o2 e
  · rw [hep, nx0]; exact .inl (i.n l hl)
  · rw [hep, hhb]; rfl
  · rw [hep, hhb] at h; exact ⟨b', h, rfl⟩
  · exact absurd (i.n l (i.hr.dom l b' (hpl l b' h))) (Nat.not_lt.2 hl)

abbrev put (L : Nat → Bool) (i : Nat) : Nat → Bool := fun j => if j = i then true else L j

/-- what is known of an operation that may come next -/
structure Next (T : Tr C fl ops s0.fr s0.h) (L : Nat → Bool) (i : Nat) (o : Oper) : Prop where
  lt : i < ops.length
  op : ops[i]? = some o
  no : L i = false
  all : ∀ q, Nat.testBit (T.m i) q = true → L q = true

theorem J.dc' {r0 : Ren} (j : J T r0 B a0 w0 L r a W) {i : Nat} {o : Oper} (n : Next T L i o) : ∀ p q, put L i p = true → p < ops.length → Nat.testBit (T.m p) q = true → put L i q = true := by
  intro p q h1 h2 h3
  simp only [put] at h1 ⊢
  split
  · rfl
  · by_cases e : p = i
    · subst e; exact n.all q h3
    · rw [if_neg e] at h1
      exact j.dc p q h1 h2 h3

/-- nothing behind it was done that has to do with memory -/
theorem J.behind {r0 : Ren} (j : J T r0 B a0 w0 L r a W) {i : Nat} {o : Oper} (n : Next T L i o) {p : Nat} (hp : i < p) (hl : p < ops.length) (hL : L p = true) : (T.k p = 2 → T.k i = 0) ∧ (T.k i = 2 → T.k p = 0) := by
  have hx : ops[p]? = some ops[p] := List.getElem?_eq_getElem hl
  rcases T.pair hp hl n.op hx with g | ⟨_, g1, g2⟩
  · have := j.dc p i hL hl g
    rw [n.no] at this; cases this
  · exact ⟨g1, g2⟩
theorem J.ahead {i : Nat} {o : Oper} (n : Next T L i o) {p : Nat} (hp : p < i) : L p = true ∨ ((T.k i = 2 → T.k p = 0) ∧ (T.k p = 2 → T.k i = 0)) := by
  have hx : ops[p]? = some (ops[p]'(Nat.lt_trans hp n.lt)) := List.getElem?_eq_getElem _
  rcases T.pair hp n.lt hx n.op with g | ⟨_, g1, g2⟩
  · exact .inl (n.all p g)
  · exact .inr ⟨g1, g2⟩
/-- the epoch is that of the text's order -/
theorem J.epoch (j : J T r0 B a0 w0 L r a W) {i : Nat} {o : Oper} (n : Next T L i o) (hk : T.k i ≠ 0) : T.ep L ops.length = T.ep every i := by
  rw [T.ep_tail (i := i) (Nat.le_of_lt n.lt) fun p h1 h2 h3 => ?_]
  · refine T.ep_congr fun p hp h3 => ?_
    rcases J.ahead n hp with g | g
    · rw [g]; rfl
    · exact absurd (g.2 h3) hk
  · cases hL : L p with
    | false => rfl
    | true =>
      by_cases e : p = i
      · subst e; rw [n.no] at hL; cases hL
      · exact absurd ((j.behind n (by omega) h2 hL).1 h3) hk
theorem part_dis {j j' : Nat} (hj : j < ops.length) (hj' : j' < ops.length) {l : Nat} (h1 : T.nx j ≤ l) (h2 : l < T.nx (j + 1)) (h3 : T.nx j' ≤ l) (h4 : l < T.nx (j' + 1)) : j = j' := by
  rcases Nat.lt_trichotomy j j' with h | h | h
  · have := T.nx_le (show j + 1 ≤ j' by omega) (by omega); omega
  · exact h
  · have := T.nx_le (show j' + 1 ≤ j by omega) (by omega); omega

/-- an operation without memory -/
theorem J.free (j : J T r0 B a0 w0 L r a W) {i : Nat} {o : Oper} (n : Next T L i o) (hk : T.k i = 0) {u : Value} (hu : VV (r.cut (T.nx (i + 1))) (T.v i) u) : J T r0 B a0 w0 (put L i) r (a.put o.dst u) W := by
  have hep : T.ep (put L i) ops.length = T.ep L ops.length := T.ep_congr fun p _ h => by
    by_cases e : p = i
    · subst e; omega
    · simp [put, e]
  have hpl : ∀ l b, PL T (put L i) l b → PL T L l b := fun l b h => by
    rcases h with ⟨q, h1, h2, h3, h4, h5⟩ | h
    · by_cases e : q = i
      · subst e; omega
      · exact .inl ⟨q, h1, by simpa [put, e] using h2, h3, by rw [hep] at h4; exact h4, h5⟩
    · rw [hep] at h; exact .inr h
  refine ⟨j.dc' n, ?_, ?_, fun t v q h => ?_, j.b, ?_, fun q h1 h2 h3 h4 => ?_, fun l b l' b' h1 o1 h2 o2 e => j.inj l b l' b' (hpl l b h1) o1 (hpl l' b' h2) o2 e, fun l hl => ?_, j.le, j.okn, j.os, j.tape, j.output, j.size, j.frame, fun l h1 h2 => ?_, fun l b' h1 h2 => ?_, fun l b' h1 h2 => j.fresh l b' h1 (hpl l b' h2)⟩
  · rw [← j.len]; cases o.dst <;> simp [Act.put]
  · rw [← j.defers]; cases o.dst <;> rfl
  · rw [T.slot_put n.lt n.op n.no j.dc t] at h
    split at h
    · rename_i hd
      cases h
      refine ⟨u, ?_, hu⟩
      rw [hd.1]
      simp [Act.put, j.len, hd.2]
    · rename_i hd
      obtain ⟨u', h1, h2⟩ := j.slot t v q h
      refine ⟨u', ?_, h2⟩
      cases ho : o.dst with
      | none => exact h1
      | some d =>
        have : ¬ d = t := fun e => hd ⟨by rw [ho, e], by have := (Array.getElem?_eq_some_iff.1 h1).1; rw [j.len] at this; exact this⟩
        simp [Act.put, this, h1]
  · rw [hep]; exact j.base
  · by_cases e : q = i
    · subst e; omega
    · exact j.part q h1 (by simpa [put, e] using h2) h3 (by rw [hep] at h4; exact h4)
  · rcases j.okk l hl with h | ⟨q, h1, h2, h3, h4, h5⟩
    · rw [hep]; exact .inl h
    · exact .inr ⟨q, h1, by simp [put, h2], h3, by rw [hep]; exact h4, h5⟩
  · rw [hep]; exact j.keep l h1 h2
  · rw [hep] at h2; exact j.old l b' h1 h2

/-- the memory that an operation is given: its blocks, and where each comes from -/
theorem J.given (j : J T r0 B a0 w0 L r a W) {i : Nat} {o : Oper} (n : Next T L i o) (hk : T.k i ≠ 0) {m : Nat → Option Blk}
    (hm : ∀ l b, m l = some b → (∃ q, q < i ∧ L q = true ∧ T.ep every i ≤ q ∧ Hp.get (T.D q) l = some b) ∨ Hp.get (T.st (T.ep every i)).hb l = some b) :
    (∀ l b, m l = some b → PL T L l b) ∧ HR m (r.cut (T.nx i)) B W := by
  have he := j.epoch n hk
  have hlt := n.lt
  have hpl : ∀ l b, m l = some b → PL T L l b := fun l b h => by
    rcases hm l b h with ⟨q, h1, h2, h3, h4⟩ | h
    · have hq : q < ops.length := by omega
      refine .inl ⟨q, hq, h2, ?_, by rw [he]; exact h3, h4⟩
      have : T.k q = 1 ∨ T.k q ≠ 1 := by omega
      rcases this with g | g
      · exact g
      · rw [T.D_nil hq g] at h4; cases h4
    · exact .inr (by rw [he]; exact h)
  have hsc : ∀ l b, m l = some b → ∃ m' q, HR m' (r.cut q) B W ∧ m' l = some b ∧ q ≤ T.nx i := fun l b h => by
    rcases hm l b h with ⟨q, h1, h2, h3, h4⟩ | h'
    · have hq : q < ops.length := by omega
      have g : T.k q = 1 := by
        have : T.k q = 1 ∨ T.k q ≠ 1 := by omega
        rcases this with g | g
        · exact g
        · rw [T.D_nil hq g] at h4; cases h4
      exact ⟨_, _, (j.part q hq h2 g (by rw [he]; exact h3)).1, h4, T.nx_le (by omega) (by omega)⟩
    · exact ⟨_, _, j.base, by rw [he]; exact h', by rw [he]; exact T.nx_le (T.ep_le _ _) (by omega)⟩
  have hle : ∀ q, q ≤ T.nx i → (r.cut q).le (r.cut (T.nx i)) := fun q hq => (Ren.le.refl r).cut hq
  refine ⟨hpl, fun l b hb => ?_, fun l b hb ho => ?_, fun l b hb ho => ?_, fun l b l' b' h1 o1 h2 o2 e => j.inj l b l' b' (hpl l b h1) o1 (hpl l' b' h2) o2 e, j.base.nb, j.base.z⟩
  · obtain ⟨m', q, h1, h2, h3⟩ := hsc l b hb
    exact (h1.mono (hle q h3)).dom l b h2
  · obtain ⟨m', q, h1, h2, h3⟩ := hsc l b hb
    exact (h1.mono (hle q h3)).own l b h2 ho
  · obtain ⟨m', q, h1, h2, h3⟩ := hsc l b hb
    exact (h1.mono (hle q h3)).ro l b h2 ho

theorem own_lt {m : Nat → Option Blk} {r : Ren} {B : Nat} {w : World} (h : HR m r B w) {l : Nat} {b : Blk} (hb : m l = some b) (ho : b.own = true) : r.blk l < w.heap.size := by
  obtain ⟨_, _, C', T', fz', h3, _⟩ := h.own l b hb ho
  exact (Array.getElem?_eq_some_iff.1 h3).1
theorem J.pl_lt (j : J T r0 B a0 w0 L r a W) {l : Nat} {b : Blk} (h : PL T L l b) (ho : b.own = true) : r.blk l < W.heap.size := by
  rcases h with ⟨q, h1, h2, h3, h4, h5⟩ | h
  · exact own_lt (j.part q h1 h2 h3 h4).1 h5 ho
  · exact own_lt j.base h ho

/-- an operation that reads, or makes memory -/
theorem J.quiet (j : J T r0 B a0 w0 L r a W) {i : Nat} {o : Oper} (n : Next T L i o) (hk : T.k i = 1) (hD : T.D i = newD (T.nx i) (T.H i).m) (hnx : T.nx (i + 1) = (T.H i).next) {h : Heap} (hnext : h.next = T.nx i)
    {u : Value} {W' : World} (hi : Inv h (r.cut (T.nx i)) B W) (hp : Post B (T.nx i) h (r.cut (T.nx i)) W (T.v i) (T.H i) u W') : ∃ r', J T r0 B a0 w0 (put L i) r' (a.put o.dst u) W' := by
  obtain ⟨r1, i1, hv, ad⟩ := hp
  have hlt := n.lt
  have he := j.epoch n (by omega)
  have hep : T.ep (put L i) ops.length = T.ep L ops.length := T.ep_congr fun p _ h => by
    by_cases e : p = i
    · subst e; omega
    · simp [put, e]
  have hEi : T.ep L ops.length ≤ i := by rw [he]; exact T.ep_le _ _
  have hnn : T.nx i ≤ T.nx (i + 1) := T.nx_le (by omega) (by omega)
  let R : Ren := ⟨fun l => r.ok l ∨ (T.nx i ≤ l ∧ r1.ok l), fun l => if T.nx i ≤ l ∧ l < T.nx (i + 1) then r1.blk l else r.blk l, fun l => if T.nx i ≤ l ∧ l < T.nx (i + 1) then r1.off l else r.off l, fun l => if T.nx i ≤ l ∧ l < T.nx (i + 1) then r1.cap l else r.cap l⟩
  have hout : ∀ l, r.ok l → ¬ (T.nx i ≤ l ∧ l < T.nx (i + 1)) := fun l hl ⟨g1, g2⟩ => by
    rcases j.okk l hl with h | ⟨q, h1, h2, h3, h4, h5, h6⟩
    · have := T.nx_le hEi (by omega); omega
    · have : q = i := part_dis h1 hlt h5 h6 g1 g2
      subst this
      rw [n.no] at h2; cases h2
  have hR : r.le R := ⟨fun l hl => .inl hl, fun l hl => if_neg (hout l hl), fun l hl => if_neg (hout l hl), fun l hl => if_neg (hout l hl)⟩
  have hlow : ∀ l, l < T.nx i → ¬ (T.nx i ≤ l ∧ l < T.nx (i + 1)) := fun l hl ⟨g, _⟩ => by omega
  have hR1 : r1.le (R.cut (T.nx (i + 1))) := by
    have key : ∀ l, r1.ok l → l < T.nx (i + 1) ∧ ((r.ok l ∧ l < T.nx i) ∨ T.nx i ≤ l) := fun l hl => by
      refine ⟨by rw [hnx]; exact i1.n l hl, ?_⟩
      rcases ad.okn l hl with g | g
      · exact .inl g
      · exact .inr (by rw [hnext] at g; exact g)
    refine ⟨fun l hl => ?_, fun l hl => ?_, fun l hl => ?_, fun l hl => ?_⟩
    · obtain ⟨g1, g2⟩ := key l hl
      refine ⟨?_, g1⟩
      rcases g2 with g2 | g2
      · exact .inl g2.1
      · exact .inr ⟨g2, hl⟩
    · obtain ⟨g1, g2⟩ := key l hl
      show (if T.nx i ≤ l ∧ l < T.nx (i + 1) then r1.blk l else r.blk l) = _
      rcases g2 with g2 | g2
      · rw [if_neg (hlow l g2.2)]; exact (ad.le.blk l g2).symm
      · rw [if_pos ⟨g2, g1⟩]
    · obtain ⟨g1, g2⟩ := key l hl
      show (if T.nx i ≤ l ∧ l < T.nx (i + 1) then r1.off l else r.off l) = _
      rcases g2 with g2 | g2
      · rw [if_neg (hlow l g2.2)]; exact (ad.le.off l g2).symm
      · rw [if_pos ⟨g2, g1⟩]
    · obtain ⟨g1, g2⟩ := key l hl
      show (if T.nx i ≤ l ∧ l < T.nx (i + 1) then r1.cap l else r.cap l) = _
      rcases g2 with g2 | g2
      · rw [if_neg (hlow l g2.2)]; exact (ad.le.cap l g2).symm
      · rw [if_pos ⟨g2, g1⟩]
  have hW : ∀ b, b < W.heap.size → W'.heap[b]? = W.heap[b]? := fun b hb => ad.frame b hb fun l k hl _ hfl => by
    have := (hi.hr.dom l k hl).2; omega
  have hB' : B ≤ W'.heap.size := Nat.le_trans j.b ad.size
  have hDi : ∀ l b, Hp.get (T.D i) l = some b → (T.H i).get l = some b ∧ T.nx i ≤ l ∧ l < T.nx (i + 1) := fun l b h => by
    rw [hD] at h
    obtain ⟨g1, g2⟩ := get_newD _ _ h
    exact ⟨g1, g2, by rw [hnx]; exact i1.n l (i1.hr.dom l b g1)⟩
  have hpart : HR (Hp.get (T.D i)) (R.cut (T.nx (i + 1))) B W' := (i1.hr.sub fun l b h => (hDi l b h).1).mono hR1
  have hpl : ∀ l b, PL T (put L i) l b → (Hp.get (T.D i) l = some b) ∨ PL T L l b := fun l b h => by
    rcases h with ⟨q, h1, h2, h3, h4, h5⟩ | h
    · by_cases e : q = i
      · subst e; exact .inl h5
      · exact .inr (.inl ⟨q, h1, by simpa [put, e] using h2, h3, by rw [hep] at h4; exact h4, h5⟩)
    · rw [hep] at h; exact .inr (.inr h)
  have hplok : ∀ l b, PL T L l b → r.ok l := fun l b h => by
    rcases h with ⟨q, h1, h2, h3, h4, h5⟩ | h
    · exact ((j.part q h1 h2 h3 h4).1.dom l b h5).1
    · exact (j.base.dom l b h).1
  have hnew : ∀ l b, Hp.get (T.D i) l = some b → b.own = true ∧ W.heap.size ≤ R.blk l := fun l b h => by
    obtain ⟨g1, g2, g3⟩ := hDi l b h
    obtain ⟨f1, f2⟩ := ad.fresh l b (by rw [hnext]; exact g2) g1
    refine ⟨f1, ?_⟩
    show _ ≤ (if T.nx i ≤ l ∧ l < T.nx (i + 1) then r1.blk l else r.blk l)
    rw [if_pos ⟨g2, g3⟩]
    rcases f2 with f2 | ⟨l0, b0, e1, _, e3, _⟩
    · exact f2
    · have := (hi.hr.dom l0 b0 e1).2; omega
  refine ⟨R, j.dc' n, ?_, ?_, fun t v q h => ?_, hB', ?_, fun q h1 h2 h3 h4 => ?_, fun l b l' b' h1 o1 h2 o2 e => ?_, fun l hl => ?_, j.le.trans hR, fun l hl => ?_, ad.os.trans j.os, ad.tape.trans j.tape, ad.output.trans j.output, Nat.le_trans j.size ad.size,
    fun b hb hno => (hW b (Nat.lt_of_lt_of_le hb j.size)).trans (j.frame b hb hno), fun l h1 h2 => ?_, fun l b' h1 h2 => ?_, fun l b' h1 h2 => ?_⟩
  · rw [← j.len]; cases o.dst <;> simp [Act.put]
  · rw [← j.defers]; cases o.dst <;> rfl
  · rw [T.slot_put n.lt n.op n.no j.dc t] at h
    split at h
    · rename_i hd
      cases h
      refine ⟨u, ?_, VV.mono hR1 hv⟩
      rw [hd.1]
      simp [Act.put, j.len, hd.2]
    · rename_i hd
      obtain ⟨u', h1, h2⟩ := j.slot t v q h
      refine ⟨u', ?_, VV.mono (hR.cut (Nat.le_refl _)) h2⟩
      cases ho : o.dst with
      | none => exact h1
      | some d =>
        have : ¬ d = t := fun e => hd ⟨by rw [ho, e], by have := (Array.getElem?_eq_some_iff.1 h1).1; rw [j.len] at this; exact this⟩
        simp [Act.put, this, h1]
  · rw [hep]; exact (j.base.keep j.b hW).mono (hR.cut (Nat.le_refl _))
  · by_cases e : q = i
    · subst e
      exact ⟨hpart, fun l b h => (hDi l b h).2.1⟩
    · obtain ⟨g1, g2⟩ := j.part q h1 (by simpa [put, e] using h2) h3 (by rw [hep] at h4; exact h4)
      exact ⟨(g1.keep j.b hW).mono (hR.cut (Nat.le_refl _)), g2⟩
  · rcases hpl l b h1 with g1 | g1 <;> rcases hpl l' b' h2 with g2 | g2
    · exact hpart.inj l b l' b' g1 o1 g2 o2 e
    · have f1 := (hnew l b g1).2
      have f2 := j.pl_lt g2 o2
      rw [e, hR.blk l' (hplok l' b' g2)] at f1
      omega
    · have f1 := (hnew l' b' g2).2
      have f2 := j.pl_lt g1 o1
      rw [← e, hR.blk l (hplok l b g1)] at f1
      omega
    · rw [hR.blk l (hplok l b g1), hR.blk l' (hplok l' b' g2)] at e
      exact j.inj l b l' b' g1 o1 g2 o2 e
  · rw [hep]
    rcases hl with hl | ⟨g1, g2⟩
    · rcases j.okk l hl with h | ⟨q, h1, h2, h3, h4, h5⟩
      · exact .inl h
      · exact .inr ⟨q, h1, by simp [put, h2], h3, h4, h5⟩
    · exact .inr ⟨i, hlt, by simp [put], hk, hEi, g1, by rw [hnx]; exact i1.n l g2⟩
  · rcases hl with hl | ⟨g1, g2⟩
    · exact j.okn l hl
    · exact .inr (by have := T.nx_le (Nat.zero_le i) (by omega); rw [nx0] at this; omega)
  · rw [hep]; exact j.keep l h1 h2
  · rw [hep] at h2; exact j.old l b' h1 h2
  · rcases hpl l b' h2 with g | g
    · obtain ⟨f1, f2⟩ := hnew l b' g
      exact ⟨f1, .inl (Nat.le_trans j.size f2)⟩
    · obtain ⟨f1, f2⟩ := j.fresh l b' h1 g
      refine ⟨f1, ?_⟩
      rw [hR.blk l (hplok l b' g)]
      exact f2

/-- an operation that writes -/
theorem J.write (j : J T r0 B a0 w0 L r a W) {i : Nat} {o : Oper} (n : Next T L i o) (hk : T.k i = 2) (hst : (T.st (i + 1)).hb = (T.H i).m) (hnx : T.nx (i + 1) = (T.H i).next) {h : Heap} (hnext : h.next = T.nx i)
    (hm : ∀ l b, h.get l = some b → PL T L l b) (hm' : ∀ l, l < s0.h.next → h.get l = Hp.get (T.st (T.ep L ops.length)).hb l)
    {u : Value} {W' : World} (hi : Inv h (r.cut (T.nx i)) B W) (hp : Post B fl h (r.cut (T.nx i)) W (T.v i) (T.H i) u W') : ∃ r', J T r0 B a0 w0 (put L i) r' (a.put o.dst u) W' := by
  obtain ⟨r1, i1, hv, ad⟩ := hp
  have hlt := n.lt
  have hep : T.ep (put L i) ops.length = i + 1 := by
    rw [T.ep_tail (i := i + 1) (by omega) fun p h1 h2 h3 => ?_]
    · unfold Tr.ep
      rw [if_pos ⟨by simp [put], hk⟩]
    · have : p ≠ i := by omega
      simp only [put, this, if_false]
      cases hL : L p with
      | false => rfl
      | true => have := (j.behind n (by omega) h2 hL).1 h3; omega
  have h0i : s0.h.next ≤ T.nx i := by have := T.nx_le (Nat.zero_le i) (by omega); rwa [nx0] at this
  have hnn : T.nx i ≤ T.nx (i + 1) := T.nx_le (by omega) (by omega)
  have hok : ∀ l, r.ok l → l < T.nx i := fun l hl => by
    rcases j.okk l hl with h | ⟨q, h1, h2, h3, h4, h5, h6⟩
    · have : T.ep L ops.length ≤ i := by rw [j.epoch n (by omega)]; exact T.ep_le _ _
      have := T.nx_le this (by omega); omega
    · rcases Nat.lt_trichotomy q i with g | g | g
      · have := T.nx_le (show q + 1 ≤ i by omega) (by omega); omega
      · subst g; rw [n.no] at h2; cases h2
      · have := (j.behind n g h1 h2).2 hk; omega
  have hR : r.le r1 := ⟨fun l hl => ad.le.n l ⟨hl, hok l hl⟩, fun l hl => ad.le.blk l ⟨hl, hok l hl⟩, fun l hl => ad.le.off l ⟨hl, hok l hl⟩, fun l hl => ad.le.cap l ⟨hl, hok l hl⟩⟩
  have hcut : r1.le (r1.cut (T.nx (i + 1))) := ⟨fun l hl => ⟨hl, by rw [hnx]; exact i1.n l hl⟩, fun _ _ => rfl, fun _ _ => rfl, fun _ _ => rfl⟩
  have hnone : ∀ q, q < ops.length → put L i q = true → T.k q = 1 → i + 1 ≤ q → False := fun q h1 h2 h3 h4 => by
    have : q ≠ i := by omega
    simp only [put, this, if_false] at h2
    have := (j.behind n (by omega) h1 h2).2 hk; omega
  have hpl : ∀ l b, PL T (put L i) l b → (T.H i).get l = some b := fun l b h => by
    rcases h with ⟨q, h1, h2, h3, h4, h5⟩ | h
    · rw [hep] at h4; exact (hnone q h1 h2 h3 h4).elim
    · rw [hep, hst] at h; exact h
  refine ⟨r1, j.dc' n, ?_, ?_, fun t v q h => ?_, i1.b, ?_, fun q h1 h2 h3 h4 => ?_, fun l b l' b' h1 o1 h2 o2 e => i1.hr.inj l b l' b' (hpl l b h1) o1 (hpl l' b' h2) o2 e, fun l hl => ?_, j.le.trans hR, fun l hl => ?_, ad.os.trans j.os, ad.tape.trans j.tape, ad.output.trans j.output, Nat.le_trans j.size ad.size,
    fun b hb hno => ?_, fun l h1 h2 => ?_, fun l b' h1 h2 => ?_, fun l b' h1 h2 => ?_⟩
  · rw [← j.len]; cases o.dst <;> simp [Act.put]
  · rw [← j.defers]; cases o.dst <;> rfl
  · rw [T.slot_put n.lt n.op n.no j.dc t] at h
    split at h
    · rename_i hd
      cases h
      refine ⟨u, ?_, VV.mono hcut hv⟩
      rw [hd.1]
      simp [Act.put, j.len, hd.2]
    · rename_i hd
      obtain ⟨u', h1, h2⟩ := j.slot t v q h
      refine ⟨u', ?_, VV.mono (hR.cut (Nat.le_refl _)) h2⟩
      cases ho : o.dst with
      | none => exact h1
      | some d =>
        have : ¬ d = t := fun e => hd ⟨by rw [ho, e], by have := (Array.getElem?_eq_some_iff.1 h1).1; rw [j.len] at this; exact this⟩
        simp [Act.put, this, h1]
  · rw [hep, hst]; exact i1.hr.mono hcut
  · rw [hep] at h4; exact (hnone q h1 h2 h3 h4).elim
  · rw [hep, hnx]; exact .inl (i1.n l hl)
  · rcases ad.okn l hl with g | g
    · exact j.okn l g.1
    · exact .inr (by omega)
  · rw [ad.frame b (Nat.lt_of_lt_of_le hb j.size) fun l k hl ho hfl he => ?_, j.frame b hb hno]
    have he : r.blk l = b := he
    by_cases hl0 : l < s0.h.next
    · rw [hm' l hl0] at hl
      obtain ⟨c, hc, oc⟩ := j.old l k hl0 hl
      have hr : r.blk l = r0.blk l := by
        refine j.le.blk l ?_
        rcases j.okn l (j.base.dom l k hl).1 with g | g
        · exact g
        · omega
      exact hno l c hc (oc.trans ho) hfl (by rw [← hr]; exact he)
    · obtain ⟨f1, f2⟩ := j.fresh l k (Nat.le_of_not_lt hl0) (hm l k hl)
      rcases f2 with f2 | ⟨l0, b0, e1, e2, e3, e4⟩
      · omega
      · exact hno l0 b0 e1 e2 e3 (by rw [← e4]; exact he)
  · rw [hep, hst]
    have := ad.keep l (by omega) h2
    show (T.H i).get l = _
    rw [this, hm' l h1]
    exact j.keep l h1 h2
  · rw [hep, hst] at h2
    obtain ⟨c, hc, oc⟩ := ad.old l b' (by omega) h2
    rw [hm' l h1] at hc
    obtain ⟨d, hd, od⟩ := j.old l c h1 hc
    exact ⟨d, hd, od.trans oc⟩
  · have hg := hpl l b' h2
    by_cases hl : l < h.next
    · obtain ⟨c, hc, oc⟩ := ad.old l b' hl hg
      obtain ⟨f1, f2⟩ := j.fresh l c h1 (hm l c hc)
      refine ⟨oc ▸ f1, ?_⟩
      rw [hR.blk l (hi.hr.dom l c hc).1]
      exact f2
    · obtain ⟨f1, f2⟩ := ad.fresh l b' (Nat.le_of_not_lt hl) hg
      refine ⟨f1, ?_⟩
      rcases f2 with f2 | ⟨l0, b0, e1, e2, e3, e4⟩
      · exact .inl (Nat.le_trans j.size f2)
      · have e4 : r1.blk l = r.blk l0 := e4
        by_cases hl0 : l0 < s0.h.next
        · rw [hm' l0 hl0] at e1
          obtain ⟨c, hc, oc⟩ := j.old l0 b0 hl0 e1
          refine .inr ⟨l0, c, hc, oc.trans e2, e3, ?_⟩
          rw [e4]
          refine j.le.blk l0 ?_
          rcases j.okn l0 (j.base.dom l0 b0 e1).1 with g | g
          · exact g
          · omega
        · obtain ⟨f1', f2'⟩ := j.fresh l0 b0 (Nat.le_of_not_lt hl0) (hm l0 b0 e1)
          rw [e4]
          exact f2'

theorem all2_of_nth {α β : Type} {R : α → β → Prop} : ∀ {xs : List α} {ys : List β}, xs.length = ys.length → (∀ (t : Nat) x y, xs[t]? = some x → ys[t]? = some y → R x y) → All2 R xs ys
  | [], [], _, _ => trivial
  | [], _ :: _, h, _ => by simp at h
  | _ :: _, [], h, _ => by simp at h
  | x :: xs, y :: ys, h, k => ⟨k 0 x y rfl rfl, all2_of_nth (by simpa using h) fun t a b h1 h2 => k (t + 1) a b (by simpa using h1) (by simpa using h2)⟩
theorem rng (N t : Nat) : (List.range N)[t]? = if t < N then some t else none := by
  split
  · exact List.getElem?_range ‹_›
  · exact List.getElem?_eq_none (by simp; omega)
/-- the slots that an operation looks at, the others struck -/
theorem J.masked (j : J T r0 B a0 w0 L r a W) {i : Nat} {o : Oper} (n : Next T L i o) : ∃ fr' a', FR (r.cut (T.nx i)) fr' a' ∧ (∀ t ∈ lookV ops o, nth (T.st i).fr t = nth fr' t) ∧ (∀ t ∈ lookV ops o, a.tmps[t]? = a'.tmps[t]?) := by
  have hlt := n.lt
  obtain ⟨hf1, hf2⟩ := T.frame i (by omega)
  let N := s0.fr.length
  refine ⟨(List.range N).map fun t => if t ∈ lookV ops o then (nth (T.st i).fr t).getD undef else undef, { a with tmps := ((List.range N).map fun t => if t ∈ lookV ops o then (a.tmps[t]?).getD Go.undef else Go.undef).toArray }, ?_, fun t ht => ?_, fun t ht => ?_⟩
  · refine all2_of_nth (by simp) fun t x y hx hy => ?_
    simp only [List.getElem?_map, Option.map_eq_some_iff] at hx hy
    obtain ⟨t', ht', rfl⟩ := hx
    obtain ⟨t'', ht'', rfl⟩ := hy
    rw [ht'] at ht''
    cases ht''
    have htt : t' = t ∧ t < N := by
      rw [rng] at ht'
      split at ht'
      · cases ht'; exact ⟨rfl, ‹_›⟩
      · cases ht'
    obtain ⟨rfl, htN⟩ := htt
    by_cases hl : t' ∈ lookV ops o
    · rw [if_pos hl, if_pos hl]
      have hn : ∃ v, nth (T.st i).fr t' = some v := by
        rw [nth_eq]
        exact ⟨_, List.getElem?_eq_getElem (by rw [hf1]; exact htN)⟩
      obtain ⟨v, hv⟩ := hn
      rw [hv]
      rw [hf2 t', Option.map_eq_some_iff] at hv
      obtain ⟨⟨v', q⟩, hs, rfl⟩ := hv
      have hq := T.slot_scope (by omega) hs
      rw [← T.slot_look hlt n.op n.no j.dc n.all hl] at hs
      obtain ⟨u, hu, hvv⟩ := j.slot t' v' q hs
      rw [hu]
      exact VV.mono ((Ren.le.refl r).cut hq) hvv
    · rw [if_neg hl, if_neg hl]
      exact VS.undef
  · rw [nth_eq, nth_eq, List.getElem?_map]
    by_cases hN : t < N
    · rw [rng, if_pos hN]
      simp only [Option.map_some, if_pos ht, nth_eq]
      rw [List.getElem?_eq_getElem (by rw [hf1]; exact hN)]
      rfl
    · rw [rng, if_neg hN, List.getElem?_eq_none (by rw [hf1]; exact Nat.le_of_not_lt hN)]
      rfl
  · simp only [List.getElem?_toArray, List.getElem?_map]
    by_cases hN : t < N
    · rw [rng, if_pos hN]
      simp only [Option.map_some, if_pos ht]
      rw [Array.getElem?_eq_getElem (by rw [j.len]; exact hN)]
      rfl
    · rw [rng, if_neg hN, Array.getElem?_eq_none (by rw [j.len]; exact Nat.le_of_not_lt hN)]
      rfl
theorem eval_look {o : Oper} {a a' : Act} (h : ∀ t ∈ lookV ops o, a.tmps[t]? = a'.tmps[t]?) : ∀ x ∈ o.op.operands, a.eval x = a'.eval x := by
  intro x hx
  cases x with
  | tmp t =>
    have := h t (look_op (by simpa using hx))
    simp only [Act.eval, Array.getD_eq_getD_getElem?, this]
  | const v => rfl
  | global g => rfl
  | func f => rfl
theorem wanted_look' {opsA : Array Oper} (hA : opsA.toList = ops) {o : Oper} {a a' : Act} (h : ∀ t ∈ lookV ops o, a.tmps[t]? = a'.tmps[t]?) : Region.wanted o (yielded opsA a.tmps) = Region.wanted o (yielded opsA a'.tmps) := by
  unfold Region.wanted
  cases hg : o.guard with
  | none => rfl
  | some g =>
    obtain ⟨j, b⟩ := g
    have : yielded opsA a.tmps j = yielded opsA a'.tmps j := by
      unfold yielded
      cases hj : opsA[j]? with
      | none => rfl
      | some q =>
        simp only [Option.bind_some]
        cases hd : q.dst with
        | none => rfl
        | some d =>
          simp only [Option.bind_some]
          rw [h d (look_guard hg (by rw [nth_eq, ← hA, Array.getElem?_toList]; exact hj) hd)]
    simp only [this]
theorem OpR.congr {o : Oper} {a a' : Act} {W : World} {K : Value → World → Prop} (hs : ∀ cs b, o.op ≠ .select cs b) (h : ∀ x ∈ o.op.operands, a.eval x = a'.eval x) (k : OpR P o a' W K) : OpR P o a W K := by
  unfold OpR at *
  rw [execOp_congr o hs h]
  exact k
theorem how_select {C : Ctx} {fr : Fr} {h hw : Heap} {fl : Nat} {o : Oper} {w : How} (hh : how C fr h hw fl o.op = w) (hw : w ≠ .p none) : ∀ cs b, o.op ≠ .select cs b := by
  intro cs b e
  rw [e] at hh
  exact hw hh.symm

theorem VS.narrow {r0 r r' : Ren} (h0 : r0.le r) (h' : r'.le r) (hn : ∀ l, r0.ok l → r'.ok l) {x : S} {u v : Value} (k0 : VS r0 x u) (k : VS r x v) : VS r' x v := by
  cases x with
  | ptr l o =>
    have g := hn l k0.1
    exact ⟨g, by rw [← h'.at g]; exact k.2⟩
  | px l o n i =>
    have g := hn l k0.1
    exact ⟨g, k.2.1, k.2.2.1, by rw [← h'.at g]; exact k.2.2.2⟩
  | sl l o n z c =>
    cases c with
    | none =>
      have g := hn l k0.1
      exact ⟨g, ⟨k.2.1.1, by rw [← h'.cap l g]; exact k.2.1.2⟩, by rw [← h'.cap l g]; exact k.2.2.1, by rw [← h'.cap l g, ← h'.at g]; exact k.2.2.2⟩
    | some c =>
      have g := hn l k0.1
      exact ⟨g, k.2.1, k.2.2.1, by rw [← h'.at g]; exact k.2.2.2⟩
  | fn f cs =>
    refine ⟨fun p hp => hn _ (k0.1 p hp), ?_⟩
    rw [k.2]
    congr 2
    exact List.map_congr_left fun p hp => by rw [h'.at (hn _ (k0.1 p hp))]
  | _ => exact k
theorem VSs.narrow {r0 r r' : Ren} (h0 : r0.le r) (h' : r'.le r) (hn : ∀ l, r0.ok l → r'.ok l) : ∀ {xs : List S} {us vs : List Value}, (∀ x ∈ xs, ∃ u, VS r0 x u) → All2 (VS r) xs vs → All2 (VS r') xs vs
  | [], _, [], _, _ => trivial
  | x :: xs, us, v :: vs, k0, k => by
    obtain ⟨u, hu⟩ := k0 x (List.mem_cons_self ..)
    exact ⟨VS.narrow h0 h' hn hu k.1, VSs.narrow (us := us) h0 h' hn (fun x hx => k0 x (List.mem_cons_of_mem _ hx)) k.2⟩
  | [], _, _ :: _, _, h => h.elim
  | _ :: _, _, [], _, h => h.elim
theorem VA.narrow {r0 r r' : Ren} (h0 : r0.le r) (h' : r'.le r) (hn : ∀ l, r0.ok l → r'.ok l) {x : A} {v : Value} (k0 : ∀ s ∈ x.cells, ∃ u, VS r0 s u) (k : VA r x v) : VA r' x v := by
  cases x with
  | s x =>
    obtain ⟨u, hu⟩ := k0 x (by simp [A.cells])
    exact VS.narrow h0 h' hn hu k
  | g l =>
    obtain ⟨vs, e, a⟩ := k
    exact ⟨vs, e, VSs.narrow (us := []) h0 h' hn k0 a⟩
theorem J.step (hty : TyOk P C.ty) (hC : CtxOk P C) (i0 : Inv s0.h r0 B w0) (hq : ∀ i l, i < ops.length → T.q i = some l → ∀ e, e ≤ ops.length → Hp.get (T.st e).hb l = Hp.get s0.h.m l) {opsA : Array Oper} (hA : opsA.toList = ops) {Q : Exit → Act → World → Prop} (j : J T r0 B a0 w0 L r a W) {i : Nat} {o : Oper} (n : Next T L i o) :
    wpOp P opsA Q i (fun a' W' => ∃ r', J T r0 B a0 w0 (put L i) r' a' W') a W := by
  obtain ⟨fr', a', hfr, hl1, hl2⟩ := j.masked n
  have hlt := n.lt
  have hs := T.step i o n.op
  have hev := ev_look (ops := ops) hl1
  have hae := eval_look (ops := ops) hl2
  have hwant : Region.wanted o (yielded opsA a.tmps) = wantedV ops o (T.st i).fr := by
    have hgo : guardOk opsA.toList o fr' = true := by rw [hA, ← guard_look' hl1]; exact hs.guard
    rw [wanted_look' hA hl2, ← wanted_ok hfr opsA o hgo, hA]
    exact (wanted_look hl1).symm
  have hopA : opsA[i]? = some o := by rw [← Array.getElem?_toList, hA]; exact n.op
  have hm : T.m i = maskOf (T.st i).an o := by simp [Tr.m, n.op]
  unfold wpOp
  rw [hopA]
  simp only []
  rw [hwant]
  rcases hs.kind with ⟨hk, _, _, _, hnx, hc⟩ | ⟨hk, hD, hhb, hds, hnx, hw, w, hh, hc⟩ | ⟨hk, hD, hhb, hds, hnx, hw, w, hh, hc⟩
  · have hnx' : T.nx (i + 1) = T.nx i := hnx
    rcases hc with ⟨hw, hv⟩ | ⟨hw, h1, h2, f1, hh⟩ | ⟨hw, l, hql, t, x, Ty, off, cs, y, hop, hT, hp, hcs, hy, hv⟩
    · rw [hw]
      simp only [Bool.false_eq_true, if_false]
      exact ⟨r, j.free n hk (by rw [hv]; exact VS.undef)⟩
    case inr.inr =>
      rw [hw]
      simp only [if_true]
      have mx : x ∈ o.op.operands := by rw [hop]; simp [Op.operands]
      rw [evPtr_congr (hev x mx)] at hp
      obtain ⟨e1, e2⟩ := evPtr_ok hfr hp
      have e2' : a.eval x = .pointer (some ((r.cut (T.nx (T.ep L ops.length))).at l off)) := (hae x mx).trans e2
      have hbI : Inv ⟨(T.st (T.ep L ops.length)).hb, T.nx (T.ep L ops.length)⟩ (r.cut (T.nx (T.ep L ops.length))) B W := ⟨fun l hl => hl.2, j.b, j.base⟩
      have hread : Heap.read ⟨(T.st (T.ep L ops.length)).hb, T.nx (T.ep L ops.length)⟩ l off Ty.size = some cs := by
        unfold Heap.read at hcs ⊢
        show ob (Hp.get (T.st (T.ep L ops.length)).hb l) _ = _
        rw [hq i l hlt hql _ (T.ep_le _ _)]
        exact hcs
      obtain ⟨z, hz, hz'⟩ := load_ok (P := P) hty hbI hT hread hy
      have hcells : ∀ s ∈ y.cells, ∃ u, VS r0 s u := by
        obtain ⟨b, hb, hex⟩ := ob_some hcs
        obtain ⟨_, e4⟩ := ext_eq hex
        intro s hs
        have hyc : y.cells = cs := by
          unfold Go.Proofs.Ytbebbbclhgjcbaa.Am.Ty.mk' at hy
          cases hg : Ty.d.agg <;> rw [hg] at hy <;> simp only [cond_true, cond_false] at hy
          · split at hy <;> cases hy
            rfl
          · cases hy; rfl
        rw [hyc, e4] at hs
        have hs' := List.mem_of_mem_drop (List.mem_of_mem_take hs)
        obtain ⟨k, hk'⟩ := List.getElem?_of_mem hs'
        obtain ⟨u, _, hu⟩ := i0.hr.cell hb (i := k) (x := s) (by rw [nth_eq]; exact hk')
        exact ⟨u, hu⟩
      refine .inl ((OpR.val (P := P) (o := o) (a := a) (w := W) (w' := W) (K := fun u W' => u = z ∧ W' = W) (v := z) (by simp [execOp, hop, e2', hz]) ⟨rfl, rfl⟩).wp fun u W' ⟨h1, h2⟩ => ?_)
      subst h1; subst h2
      have h0n : s0.h.next ≤ T.nx i := by have := T.nx_le (Nat.zero_le i) (Nat.le_of_lt hlt); rw [nx0] at this; exact this
      refine ⟨r, j.free n hk ?_⟩
      rw [hnx', hv]
      exact VA.narrow (r := r) j.le (r.cut_le _) (fun l hl => ⟨j.le.n l hl, Nat.lt_of_lt_of_le (i0.n l hl) h0n⟩) hcells (VA.mono (r.cut_le _) hz')
    · rw [hw]
      simp only [if_true]
      have hsel := how_select hh (by simp)
      rw [how_congr hev] at hh
      obtain ⟨u, hu, hvv⟩ := how_pure (w := W) hty hC.tb j.base.z hfr hh
      refine .inl ((OpR.congr hsel hae (OpR.val (K := fun z W' => z = u ∧ W' = W) hu ⟨rfl, rfl⟩)).wp fun z W' ⟨h1, h2⟩ => ?_)
      subst h1; subst h2
      exact ⟨r, j.free n hk (by rw [hnx']; exact hvv)⟩
  · rw [hw]
    simp only [if_true]
    obtain ⟨hdl, hdg⟩ := T.ds i (by omega)
    have hgiven := j.given n (by omega) (m := Heap.get ⟨selD (T.m i) 0 (T.st i).ds ++ (T.st i).hb, T.nx i⟩) fun l b hb => by
      have hb : Hp.get (selD (T.m i) 0 (T.st i).ds ++ (T.st i).hb) l = some b := hb
      rw [Hp.get_append] at hb
      cases hq : Hp.get (selD (T.m i) 0 (T.st i).ds) l with
      | none => rw [hq] at hb; rw [T.hb i (by omega)] at hb; exact .inr hb
      | some x =>
        rw [hq] at hb
        cases hb
        obtain ⟨q, d, g1, g2, g3⟩ := get_selD _ _ _ hq
        have hqi : q < i := by have := (List.getElem?_eq_some_iff.1 g1).1; omega
        rw [hdg q hqi] at g1
        rw [Nat.zero_add] at g2
        cases g1
        split at g3
        · exact .inl ⟨q, hqi, n.all q g2, ‹_›, g3⟩
        · cases g3
    have hinv : Inv ⟨selD (T.m i) 0 (T.st i).ds ++ (T.st i).hb, T.nx i⟩ (r.cut (T.nx i)) B W := ⟨fun l hl => hl.2, j.b, hgiven.2⟩
    have hsel := how_select hh (by rcases hc with h | ⟨_, h⟩ | ⟨_, _, h, _⟩ <;> rw [h] <;> simp)
    have hmem := hh
    rw [how_congr hev, ← hm] at hh
    have hop : OpR P o a' W (Post B (T.nx i) ⟨selD (T.m i) 0 (T.st i).ds ++ (T.st i).hb, T.nx i⟩ (r.cut (T.nx i)) W (T.v i) (T.H i)) := by
      rcases hc with h | ⟨x, h⟩ | ⟨f, as, h, hcall⟩
      · rw [h] at hh; exact quiet_ok hty hinv hfr hh _
      · rw [h] at hh; exact quietQW_ok hty hinv hfr hh _
      · rw [h] at hh hmem
        obtain ⟨c1, c2⟩ := how_c_mem hmem
        rw [callOp_congr (hev f c1) (fun x hx => hev x (c2 x hx)), ← hm] at hcall
        exact call_ok hC hinv hfr hh hcall
    refine .inl ((OpR.congr hsel hae hop).wp fun u W' hp => ?_)
    exact j.quiet n hk hD hnx rfl hinv hp
  · rw [hw]
    simp only [if_true]
    obtain ⟨hdl, hdg⟩ := T.ds i (by omega)
    have he := j.epoch n (by omega)
    have hfl : ∀ l b, Hp.get (T.st i).ds.flatten l = some b → ∃ q, q < i ∧ L q = true ∧ T.ep every i ≤ q ∧ Hp.get (T.D q) l = some b := fun l b hq => by
      obtain ⟨q, d, g1, g3⟩ := get_flatten _ hq
      have hqi : q < i := by have := (List.getElem?_eq_some_iff.1 g1).1; omega
      rw [hdg q hqi] at g1
      cases g1
      split at g3
      · refine ⟨q, hqi, ?_, ‹_›, g3⟩
        rcases J.ahead n hqi with g | g
        · exact g
        · have hq0 := g.1 hk
          rw [T.D_nil (by omega) (by omega)] at g3
          cases g3
      · cases g3
    have hgiven := j.given n (by omega) (m := Heap.get ⟨(T.st i).ds.flatten ++ (T.st i).hb, T.nx i⟩) fun l b hb => by
      have hb : Hp.get ((T.st i).ds.flatten ++ (T.st i).hb) l = some b := hb
      rw [Hp.get_append] at hb
      cases hq : Hp.get (T.st i).ds.flatten l with
      | none => rw [hq] at hb; rw [T.hb i (by omega)] at hb; exact .inr hb
      | some x =>
        rw [hq] at hb
        cases hb
        exact .inl (hfl l b hq)
    have hinv : Inv ⟨(T.st i).ds.flatten ++ (T.st i).hb, T.nx i⟩ (r.cut (T.nx i)) B W := ⟨fun l hl => hl.2, j.b, hgiven.2⟩
    have hsel := how_select hh (by rcases hc with h | ⟨_, h⟩ | ⟨_, _, h, _⟩ <;> rw [h] <;> simp)
    have hmem := hh
    rw [how_congr hev, ← hm] at hh
    have hop : OpR P o a' W (Post B fl ⟨(T.st i).ds.flatten ++ (T.st i).hb, T.nx i⟩ (r.cut (T.nx i)) W (T.v i) (T.H i)) := by
      rcases hc with h | ⟨x, h⟩ | ⟨f, as, h, hcall⟩
      · rw [h] at hh; exact write_ok hty hinv hfr hh
      · rw [h] at hh; exact writeQW_ok hty hinv hfr hh
      · rw [h] at hh hmem
        obtain ⟨c1, c2⟩ := how_c_mem hmem
        rw [callOp_congr (hev f c1) (fun x hx => hev x (c2 x hx))] at hcall
        exact call_ok hC hinv hfr hh hcall
    refine .inl ((OpR.congr hsel hae hop).wp fun u W' hp => ?_)
    refine j.write n hk hhb hnx rfl hgiven.1 (fun l hl => ?_) hinv hp
    show Hp.get ((T.st i).ds.flatten ++ (T.st i).hb) l = _
    rw [Hp.get_append]
    cases hq : Hp.get (T.st i).ds.flatten l with
    | none => rw [T.hb i (by omega), he]
    | some x =>
      obtain ⟨q, hqi, g1, g2, g3⟩ := hfl l x hq
      have hq1 : T.k q = 1 := by
        have : T.k q = 1 ∨ T.k q ≠ 1 := by omega
        rcases this with g | g
        · exact g
        · rw [T.D_nil (by omega) g] at g3; cases g3
      have := (j.part q (by omega) g1 hq1 (by rw [he]; exact g2)).2 l x g3
      have h0 := T.nx_le (Nat.zero_le q) (by omega)
      rw [nx0] at h0
      omega

theorem listed_set {listed : Array Bool} {i : Nat} (hi : i < listed.size) : (fun j => (listed.setIfInBounds i true).getD j false) = put (fun j => listed.getD j false) i := by
  funext j
  simp only [put, Array.getD_eq_getD_getElem?, Array.getElem?_setIfInBounds]
  by_cases e : i = j
  · subst e; simp [hi]
  · have : ¬ j = i := fun h => e h.symm
    simp [e, this]
theorem count_set (l : List Bool) (i : Nat) (h : l[i]? = some false) : (l.set i true).count false + 1 = l.count false := by
  induction l generalizing i with
  | nil => simp at h
  | cons x l ih =>
    cases i with
    | zero => simp at h; subst h; simp
    | succ i =>
      have := ih i (by simpa using h)
      simp only [List.set_cons_succ, List.count_cons]
      omega
theorem wpAny_ok (hty : TyOk P C.ty) (hC : CtxOk P C) (i0 : Inv s0.h r0 B w0) (hfq : ∀ i l, i < ops.length → T.q i = some l → ∀ e, e ≤ ops.length → Hp.get (T.st e).hb l = Hp.get s0.h.m l) {opsA : Array Oper} (hA : opsA.toList = ops) {Q : Exit → Act → World → Prop}
    (hq : ∀ r' a' W', J T r0 B a0 w0 every r' a' W' → Q .normal a' W') : ∀ (fuel : Nat) (listed : Array Bool) (r : Ren) (a : Act) (W : World), listed.size = ops.length → listed.toList.count false ≤ fuel → J T r0 B a0 w0 (fun j => listed.getD j false) r a W →
    wpAny P .any opsA Q fuel listed a W := by
  have hsz : opsA.size = ops.length := by rw [← hA]; simp
  -- when nothing is left to do, all is done
  have hend : ∀ (listed : Array Bool) (r : Ren) (a : Act) (W : World), listed.size = ops.length → (∀ i, i < ops.length → listed[i]? = some true) → J T r0 B a0 w0 (fun j => listed.getD j false) r a W → Q .normal a W := by
    intro listed r a W hl hall j
    have hL : ∀ i, i < ops.length → listed.getD i false = true := fun i hi => by simp [Array.getD_eq_getD_getElem?, hall i hi]
    have hep : T.ep (fun j => listed.getD j false) ops.length = T.ep every ops.length := T.ep_congr fun p hp _ => hL p hp
    have hslot : ∀ n, n ≤ ops.length → ∀ t, T.slot (fun j => listed.getD j false) n t = T.slot every n t := by
      intro n
      induction n with
      | zero => intro _ t; rfl
      | succ n ih =>
        intro hn t
        unfold Tr.slot
        rw [ih (by omega) t]
        simp only [hL n (by omega), every]
    have hpl : ∀ l b, PL T every l b → PL T (fun j => listed.getD j false) l b := fun l b h => by
      rcases h with ⟨q, h1, h2, h3, h4, h5⟩ | h
      · exact .inl ⟨q, h1, hL q h1, h3, by rw [hep]; exact h4, h5⟩
      · exact .inr (by rw [hep]; exact h)
    refine hq r a W ⟨fun p q _ hp hm => rfl, j.len, j.defers, fun t v q h => j.slot t v q (by rw [hslot _ (Nat.le_refl _)]; exact h), j.b, by rw [← hep]; exact j.base, fun q h1 _ h3 h4 => j.part q h1 (hL q h1) h3 (by rw [hep]; exact h4),
      fun l b l' b' h1 o1 h2 o2 e => j.inj l b l' b' (hpl l b h1) o1 (hpl l' b' h2) o2 e, fun l hl => ?_, j.le, j.okn, j.os, j.tape, j.output, j.size, j.frame, by rw [← hep]; exact j.keep, by rw [← hep]; exact j.old, fun l b' h1 h2 => j.fresh l b' h1 (hpl l b' h2)⟩
    rcases j.okk l hl with h | ⟨q, h1, _, h3, h4, h5⟩
    · rw [← hep]; exact .inl h
    · exact .inr ⟨q, h1, rfl, h3, by rw [← hep]; exact h4, h5⟩
  have hnext : ∀ (listed : Array Bool), listed.size = ops.length → ∀ i, i ∈ Region.ready .any opsA listed → (∀ p q, listed.getD p false = true → p < ops.length → Nat.testBit (T.m p) q = true → listed.getD q false = true) →
      ∃ o, Next T (fun j => listed.getD j false) i o ∧ listed[i]? = some false := by
    intro listed hl i hi hdc
    obtain ⟨h0, o, ho, hed⟩ := mem_ready.1 hi
    have hop : ops[i]? = some o := by rw [← hA, Array.getElem?_toList]; exact ho
    have hlt : i < ops.length := (List.getElem?_eq_some_iff.1 hop).1
    have hlf : listed[i]? = some false := by
      have : i < listed.size := by omega
      simp [Array.getD_eq_getD_getElem?, Array.getElem?_eq_getElem this] at h0
      rw [Array.getElem?_eq_getElem this, h0]
    refine ⟨o, ⟨hlt, hop, by simp [Array.getD_eq_getD_getElem?, hlf], fun q hq => ?_⟩, hlf⟩
    have hm : T.m i = maskOf (T.st i).an o := by simp [Tr.m, hop]
    rw [hm, mask_spec] at hq
    obtain ⟨e, he, hb, hq⟩ := hq
    have hed' := hed e (by simpa using he) hb
    rcases hq with rfl | hq
    · exact hed'
    · have hsi := (T.step i o hop).edges
      have hei : e.on < i := by
        unfold edgesOk at hsi
        have := List.all_eq_true.1 hsi e he
        rw [hb] at this
        have h2 : Nat.blt e.on (T.st i).os.length = true := by simpa using this
        rw [T.os i (by omega)] at h2
        have h3 : e.on + 1 ≤ (ops.take i).length := Nat.le_of_ble_eq_true h2
        rw [List.length_take] at h3
        omega
      rw [nth_eq, (T.an i (by omega)).2 e.on hei] at hq
      exact hdc e.on q hed' (by omega) hq
  intro fuel
  induction fuel with
  | zero =>
    intro listed r a W hl hc j
    have hall : ∀ i, i < ops.length → listed[i]? = some true := fun i hi => by
      have hi' : i < listed.size := by omega
      rw [Array.getElem?_eq_getElem hi']
      cases hb : listed[i] with
      | true => rfl
      | false =>
        have h1 : listed.toList[i]? = some false := by rw [Array.getElem?_toList, Array.getElem?_eq_getElem hi', hb]
        have := count_set listed.toList i h1
        omega
    refine ⟨?_, hend listed r a W hl hall j⟩
    cases hr : Region.ready .any opsA listed with
    | nil => rfl
    | cons i rs =>
      obtain ⟨o, n, hlf⟩ := hnext listed hl i (by rw [hr]; simp) j.dc
      rw [hall i n.lt] at hlf
      cases hlf
  | succ fuel ih =>
    intro listed r a W hl hc j
    refine ⟨fun hr => ?_, fun i hi => ?_⟩
    · -- the first one that is not done may come
      have hall : ∀ k i, i < k → i < ops.length → listed[i]? = some true := by
        intro k
        induction k with
        | zero => intro i h; omega
        | succ k ihk =>
          intro i hik hi
          by_cases e : i < k
          · exact ihk i e hi
          · have hi' : i < listed.size := by omega
            rw [Array.getElem?_eq_getElem hi']
            cases hb : listed[i] with
            | true => rfl
            | false =>
              exfalso
              have ho : ops[i]? = some ops[i] := List.getElem?_eq_getElem hi
              have : i ∈ Region.ready .any opsA listed := mem_ready.2 ⟨by simp [Array.getD_eq_getD_getElem?, Array.getElem?_eq_getElem hi', hb], ops[i], by rw [← Array.getElem?_toList, hA]; exact ho, fun e he hbe => by
                have hsi := (T.step i ops[i] ho).edges
                unfold edgesOk at hsi
                have := List.all_eq_true.1 hsi e (by simpa using he)
                rw [hbe] at this
                have h2 : Nat.blt e.on (T.st i).os.length = true := by simpa using this
                rw [T.os i (by omega)] at h2
                have h3 : e.on + 1 ≤ (ops.take i).length := Nat.le_of_ble_eq_true h2
                rw [List.length_take] at h3
                simp [Array.getD_eq_getD_getElem?, ihk e.on (by omega) (by omega)]⟩
              rw [hr] at this
              cases this
      exact hend listed r a W hl (fun i hi => hall (i + 1) i (by omega) hi) j
    · obtain ⟨o, n, hlf⟩ := hnext listed hl i hi j.dc
      refine wpOp_mono (fun a' W' ⟨r', j'⟩ => ?_) (j.step hty hC i0 hfq hA (Q := Q) n)
      have hi' : i < listed.size := by have := n.lt; omega
      refine ih _ r' a' W' (by simpa using hl) ?_ (by rw [listed_set hi']; exact j')
      have := count_set listed.toList i (by rw [Array.getElem?_toList]; exact hlf)
      rw [Array.toList_setIfInBounds]
      omega

theorem region_trace_ok (hty : TyOk P C.ty) (hC : CtxOk P C) (hm : P.follows .mixedOrders = true) {opsA : Array Oper} {id : Nat} {Q : Exit → Act → World → Prop} {B : Nat} {s : St} {r : Ren} {a : Act} {w : World} (hr : Rel s r B a w) {σ : RS}
    (T : Tr C fl opsA.toList s.fr s.h) (hT : T.st opsA.toList.length = σ) (hfq : ∀ i l, i < opsA.toList.length → T.q i = some l → ∀ e, e ≤ opsA.toList.length → Hp.get (T.st e).hb l = Hp.get s.h.m l)
    (hq : ∀ r' a' w', Rel ⟨σ.fr, ⟨σ.ds.flatten ++ σ.hb, σ.nx⟩⟩ r' B a' w' → Adv fl s.h r w ⟨σ.ds.flatten ++ σ.hb, σ.nx⟩ r' w' → a'.defers = a.defers → Q .normal a' w') : (Code.region id opsA true).wp P Q a w := by
  refine wp_region_any hm (wpAny_ok (T := T) (r0 := r) (B := B) (a0 := a) (w0 := w) hty hC hr.i hfq rfl (fun r' a' W' j => ?_) _ _ r a w.drew (by simp) (by simp) ?_)
  · -- all is done: the machine's end
    have hn : opsA.toList.length ≤ opsA.toList.length := Nat.le_refl _
    obtain ⟨hdl, hdg⟩ := T.ds _ hn
    obtain ⟨hf1, hf2⟩ := T.frame _ hn
    rw [hT] at hdl hdg hf1 hf2
    have hhb : σ.hb = (T.st (T.ep every opsA.toList.length)).hb := by rw [← hT]; exact T.hb _ hn
    have hnx : T.nx opsA.toList.length = σ.nx := by show (T.st opsA.toList.length).nx = σ.nx; rw [hT]
    have hpart : ∀ q d l b, σ.ds[q]? = some d → Hp.get d l = some b → T.ep every opsA.toList.length ≤ q ∧ q < opsA.toList.length ∧ d = T.D q ∧ T.k q = 1 ∧ T.nx q ≤ l ∧ l < T.nx (q + 1) := fun q d l b h1 h2 => by
      have hql : q < opsA.toList.length := by have := (List.getElem?_eq_some_iff.1 h1).1; omega
      rw [hdg q hql] at h1
      cases h1
      split at h2
      · rename_i hep
        have hk1 : T.k q = 1 := by
          have : T.k q = 1 ∨ T.k q ≠ 1 := by omega
          rcases this with g | g
          · exact g
          · rw [T.D_nil hql g] at h2; cases h2
        obtain ⟨p1, p2⟩ := j.part q hql rfl hk1 hep
        exact ⟨hep, hql, by rw [if_pos hep], hk1, p2 l b h2, (p1.dom l b h2).2⟩
      · cases h2
    have hget : ∀ l b, Heap.get ⟨σ.ds.flatten ++ σ.hb, σ.nx⟩ l = some b → PL T every l b := fun l b h => by
      have h : Hp.get (σ.ds.flatten ++ σ.hb) l = some b := h
      rw [Hp.get_append] at h
      cases hq : Hp.get σ.ds.flatten l with
      | none => rw [hq] at h; exact .inr (by rw [← hhb]; exact h)
      | some x =>
        rw [hq] at h
        cases h
        obtain ⟨q, d, g1, g2⟩ := get_flatten _ hq
        obtain ⟨p1, p2, rfl, p4, _⟩ := hpart q d l b g1 g2
        exact .inl ⟨q, p2, rfl, p4, p1, g2⟩
    have hlow : ∀ l, l < s.h.next → Heap.get ⟨σ.ds.flatten ++ σ.hb, σ.nx⟩ l = Hp.get (T.st (T.ep every opsA.toList.length)).hb l := fun l hl => by
      show Hp.get (σ.ds.flatten ++ σ.hb) l = _
      rw [Hp.get_append]
      cases hq : Hp.get σ.ds.flatten l with
      | none => rw [hhb]
      | some x =>
        obtain ⟨q, d, g1, g2⟩ := get_flatten _ hq
        obtain ⟨p1, p2, _, _, p5, _⟩ := hpart q d l x g1 g2
        have := T.nx_le (Nat.zero_le q) (by omega)
        rw [nx0] at this
        omega
    have hscope : ∀ l, r'.ok l → l < σ.nx := fun l hl => by
      rcases j.okk l hl with h | ⟨q, h1, _, _, _, h6⟩
      · have := T.nx_le (T.ep_le every opsA.toList.length) hn; omega
      · have := T.nx_le (show q + 1 ≤ opsA.toList.length by omega) hn; omega
    have hcl : ∀ q, (r'.cut q).le r' := fun q => r'.cut_le q
    have hHR : HR (Heap.get ⟨σ.ds.flatten ++ σ.hb, σ.nx⟩) r' B W' := by
      have hsc : ∀ l b, PL T every l b → ∃ m' q, HR m' (r'.cut q) B W' ∧ m' l = some b := fun l b h => by
        rcases h with ⟨q, h1, h2, h3, h4, h5⟩ | h
        · exact ⟨_, _, (j.part q h1 h2 h3 h4).1, h5⟩
        · exact ⟨_, _, j.base, h⟩
      refine ⟨fun l b hb => ?_, fun l b hb ho => ?_, fun l b hb ho => ?_, fun l b l' b' h1 o1 h2 o2 e => j.inj l b l' b' (hget l b h1) o1 (hget l' b' h2) o2 e, j.base.nb, j.base.z⟩
      · obtain ⟨m', q, h1, h2⟩ := hsc l b (hget l b hb)
        exact (h1.mono (hcl q)).dom l b h2
      · obtain ⟨m', q, h1, h2⟩ := hsc l b (hget l b hb)
        exact (h1.mono (hcl q)).own l b h2 ho
      · obtain ⟨m', q, h1, h2⟩ := hsc l b (hget l b hb)
        exact (h1.mono (hcl q)).ro l b h2 ho
    have h0 : s.h.next ≤ σ.nx := by have := T.nx_le (Nat.zero_le opsA.toList.length) hn; rw [nx0, hnx] at this; exact this
    refine hq r' a' W' ⟨?_, hscope, j.b, hHR⟩ ⟨j.le, h0, j.okn, j.os, j.tape, j.output, j.size, j.frame, fun l h1 h2 => ?_, fun l b' h1 h2 => ?_, fun l b' h1 h2 => j.fresh l b' h1 (hget l b' h2)⟩ j.defers
    · refine all2_of_nth (by have := j.len; simp only [Array.length_toList]; omega) fun t x y hx hy => ?_
      rw [← nth_eq, hf2 t, Option.map_eq_some_iff] at hx
      obtain ⟨⟨v', q⟩, hsl, rfl⟩ := hx
      obtain ⟨u, hu, hv⟩ := j.slot t v' q hsl
      rw [Array.getElem?_toList, hu] at hy
      cases hy
      exact VV.mono (hcl q) hv
    · rw [hlow l h1]; exact j.keep l h1 h2
    · rw [hlow l h1] at h2; exact j.old l b' h1 h2
  · have hj := J.start (T := T) (r0 := r) (a0 := a) hr.i hr.f
    have : (fun j => (Array.replicate opsA.size false).getD j false) = fun _ => false := by
      funext j
      simp only [Array.getD_eq_getD_getElem?, Array.getElem?_replicate]
      split <;> rfl
    rw [this]
    exact hj
theorem region_any_ok (hty : TyOk P C.ty) (hC : CtxOk P C) (hm : P.follows .mixedOrders = true) {opsA : Array Oper} {id : Nat} {Q : Exit → Act → World → Prop} {B : Nat} {s s' : St} {r : Ren} {a : Act} {w : World} (hr : Rel s r B a w)
    (hs : drawR C fl opsA.toList s = some s') (hq : ∀ r' a' w', Rel s' r' B a' w' → Adv fl s.h r w s'.h r' w' → a'.defers = a.defers → Q .normal a' w') : (Code.region id opsA true).wp P Q a w := by
  obtain ⟨σ, hσ, hs⟩ := ob_some hs
  cases hs
  obtain ⟨T, hT, hn⟩ := Tr.make hσ
  exact region_trace_ok hty hC hm hr T hT (fun i l _ h => by rw [hn] at h; cases h) hq

/-! .. with loads that may come at any time -/
theorem lastK_snoc (l : List Nat) (k : Nat) : lastK (l ++ [k]) = k := by simp [lastK]
theorem freeLoad_some {fr : Fr} {h0 : Heap} {o : Oper} {l : Nat} {v : V} (h : freeLoad C fr h0 o = some (l, v)) : Fre C fr h0 o l v := by
  unfold freeLoad at h
  split at h
  · rename_i t x hop
    obtain ⟨Ty, hT, h⟩ := ob_some h
    obtain ⟨p, hp, h⟩ := ob_some h
    obtain ⟨cs, hcs, h⟩ := ob_some h
    obtain ⟨y, hy, h⟩ := ob_some h
    cases h
    exact ⟨t, x, Ty, p.2, cs, y, hop, hT, hp, hcs, hy, rfl⟩
  · cases h
theorem store_get {fr : Fr} {h hw : Heap} {o : Oper} {v : V} {h' : Heap} {t : Nat} (ht : tgtOf fr o = some t) (hh : how C fr h hw fl o.op = .w (some (v, h')) ∨ ∃ r, how C fr h hw fl o.op = .qw r (some (v, h'))) {l : Nat} (hl : l ≠ t) (hln : l < hw.next) : Hp.get h'.m l = Hp.get hw.m l := by
  unfold tgtOf at ht
  split at ht
  · rename_i ty x y hop
    obtain ⟨s, hs, ht⟩ := ob_some ht
    rcases hh with hh | ⟨_, hh⟩
    · rw [hop] at hh
      simp only [how, How.w.injEq] at hh
      rcases orR_some hh with hh | hh
      · obtain ⟨Ty, hT, hh⟩ := ob_some hh
        obtain ⟨p, hp, hh⟩ := ob_some hh
        obtain ⟨v', hv', hh⟩ := ob_some hh
        cases hc : (v'.cells.length == Ty.size && Nat.ble fl p.1) <;> rw [hc] at hh <;> simp only [cond_true, cond_false] at hh
        · cases hh
        obtain ⟨b, hb, hh⟩ := ob_some hh
        cases hbo : b.own <;> rw [hbo] at hh <;> simp only [cond_true, cond_false] at hh
        · cases hh
        obtain ⟨cs, hcs, hh⟩ := ob_some hh
        cases hh
        obtain ⟨s', hs', hp'⟩ := ob_some hp
        rw [hs] at hs'
        cases hs'
        have e : p.1 = t := by
          unfold S.isPtr at hp'
          split at hp' <;> cases hp'
          cases ht
          rfl
        rw [Hp.get_set _ _ _ _ hb, if_neg (by rw [e]; exact hl)]
      · obtain ⟨s', hs', hh⟩ := ob_some hh
        obtain ⟨v', hv', hh⟩ := ob_some hh
        rw [hs] at hs'
        cases hs'
        unfold storeX at hh
        split at hh
        · rename_i l' o' n' i' _
          have ht : l' = t := Option.some.inj ht
          subst ht
          obtain ⟨Ty, hT, hh⟩ := ob_some hh
          cases hc : (Ty.size == 1 && Nat.ble fl l') <;> rw [hc] at hh <;> simp only [cond_true, cond_false] at hh
          · cases hh
          obtain ⟨b, hb, hh⟩ := ob_some hh
          cases hbo : b.own <;> rw [hbo] at hh <;> simp only [cond_true, cond_false] at hh
          · cases hh
          obtain ⟨cs, _, hh⟩ := ob_some hh
          obtain ⟨ds, _, hh⟩ := ob_some hh
          obtain ⟨es, _, hh⟩ := ob_some hh
          cases hh
          rw [Hp.get_set _ _ _ _ hb, if_neg hl]
        · cases hh
    · rw [hop] at hh; cases hh
  · rename_i c hop
    split at ht
    · rename_i s rest hcal hargs
      obtain ⟨sv, hsv, ht⟩ := ob_some ht
      rcases hh with hh | ⟨_, hh⟩
      · rw [hop] at hh
        simp only [how, hcal, howCall, howBuiltin] at hh
        cases hh
      · rw [hop] at hh
        simp only [how, hcal, howCall, howBuiltin, How.qw.injEq] at hh
        obtain ⟨t1, u, s1, x, E, sv', xv, p, e1, e2, e3, e4, e5, e6, e7, e8, e9⟩ := appOp_some hh.2
        rw [hargs] at e2
        cases e2
        rw [hsv] at e5
        cases e5
        cases hz : (szS sv == E.size) <;> rw [hz] at e9 <;> simp only [cond_true, cond_false] at e9
        · cases e9
        unfold appW at e9
        split at e9
        · rename_i l' o' n' z' c'
          have ht : l' = t := Option.some.inj ht
          subst ht
          cases hc : (Nat.ble n' 65536 && Nat.ble (n' + p.1) c' && Nat.ble fl l') <;> rw [hc] at e9 <;> simp only [cond_true, cond_false] at e9
          · cases e9
          obtain ⟨b, hb, e9⟩ := ob_some e9
          cases hbo : b.own <;> rw [hbo] at e9 <;> simp only [cond_true, cond_false] at e9
          · cases e9
          obtain ⟨cs, _, e9⟩ := ob_some e9
          cases e9
          rw [Hp.get_set _ _ _ _ hb, if_neg hl]
        · rename_i l' o' n' z'
          have ht : l' = t := Option.some.inj ht
          subst ht
          cases hc : (Nat.ble n' 65536 && Nat.ble fl l' && o' == 0) <;> rw [hc] at e9 <;> simp only [cond_true, cond_false] at e9
          · cases e9
          obtain ⟨b, hb, e9⟩ := ob_some e9
          cases hbo : (b.own && Nat.ble (n' * z') b.cells.length) <;> rw [hbo] at e9 <;> simp only [cond_true, cond_false] at e9
          · cases e9
          cases e9
          rw [Hp.get_cons]
          have : (hw.next == l) = false := by
            cases e : (hw.next == l)
            · rfl
            · have e' : hw.next = l := by simpa using e
              omega
          rw [this, cond_false, Hp.get_del, if_neg hl]
        · cases e9
    · cases ht
  · cases ht
/-- the steps, and what each of them writes and may read at any time -/
theorem freeR_some {ops : List Oper} {an : List Nat} {h0 : Heap} : ∀ (l : List Oper) {s out : Fs}, freeR C fl ops an h0 l s = some out →
    ∃ (st : Nat → RS) (k : Nat → Nat) (v : Nat → V) (D : Nat → Hp) (H : Nat → Heap) (q : Nat → Option Nat), st 0 = s.rs ∧ st l.length = out.rs ∧ (∀ x, x ∈ s.ls → x ∈ out.ls) ∧ (∀ x, x ∈ s.ts → x ∈ out.ts) ∧ ∀ i o, l[i]? = some o →
      Step C fl ops h0 (st i) o (maskOf (st i).an o) (st (i + 1)) (k i) (v i) (D i) (H i) (q i) ∧ (∀ x, q i = some x → x ∈ out.ls ∧ ∃ b, h0.get x = some b) ∧ (k i = 2 → ∃ t, tgtOf (st i).fr o = some t ∧ t ∈ out.ts)
  | [], s, out, h => by cases h; exact ⟨fun _ => s.rs, fun _ => 0, fun _ => undef, fun _ => [], fun _ => ⟨[], 0⟩, fun _ => none, rfl, rfl, fun _ h => h, fun _ h => h, fun i o h => by simp at h⟩
  | o :: l, s, out, h => by
    obtain ⟨s1, hs1, h⟩ := ob_some (show ob (stepF C fl ops an h0 s o (maskOf s.rs.an o)) (freeR C fl ops an h0 l) = some out from h)
    obtain ⟨st, k, v, D, H, q, a1, a2, a3, a4, a5⟩ := freeR_some l h
    have key : ∃ k0 v0 D0 H0 q0, Step C fl ops h0 s.rs o (maskOf s.rs.an o) s1.rs k0 v0 D0 H0 q0 ∧ (∀ x, x ∈ s.ls → x ∈ s1.ls) ∧ (∀ x, x ∈ s.ts → x ∈ s1.ts) ∧ (∀ x, q0 = some x → x ∈ s1.ls ∧ ∃ b, h0.get x = some b) ∧ (k0 = 2 → ∃ t, tgtOf s.rs.fr o = some t ∧ t ∈ s1.ts) := by
      unfold stepF at hs1
      cases hc : (edgesOk s.rs.os.length o && guardOk ops o s.rs.fr) <;> rw [hc] at hs1 <;> simp only [cond_true, cond_false] at hs1
      · cases hs1
      simp only [Bool.and_eq_true] at hc
      cases hw : wantedV ops o s.rs.fr <;> rw [hw] at hs1 <;> simp only [cond_true, cond_false] at hs1
      · obtain ⟨r, hr, hs1⟩ := ob_some hs1
        cases hs1
        unfold stepD at hr
        rw [show (edgesOk s.rs.os.length o && guardOk ops o s.rs.fr) = true by simp [hc], hw] at hr
        simp only [cond_true, cond_false] at hr
        exact ⟨0, undef, [], ⟨[], 0⟩, none, endP_some hc.1 hc.2 hr (.inl ⟨hw, rfl⟩), fun _ h => h, fun _ h => h, fun x h => (by cases h), fun h => by cases h⟩
      · cases hf' : looseL C s.rs.fr h0 o (looseAt an s.rs.os.length 0 ops) with
        | some p =>
          have hf : freeLoad C s.rs.fr h0 o = some p := by
            unfold looseL at hf'
            cases hb : looseAt an s.rs.os.length 0 ops <;> rw [hb] at hf' <;> simp only [cond_true, cond_false] at hf'
            · cases hf'
            · exact hf'
          rw [hf'] at hs1
          obtain ⟨r, hr, hs1⟩ := ob_some (show ob (endP ops s.rs o (maskOf s.rs.an o) p.2) (fun r => some ⟨r, p.1 :: s.ls, s.ts⟩) = some s1 from hs1)
          cases hs1
          exact ⟨0, p.2, [], ⟨[], 0⟩, some p.1, endP_some hc.1 hc.2 hr (.inr (.inr ⟨hw, p.1, rfl, freeLoad_some hf⟩)), fun x h => List.mem_cons_of_mem _ h, fun _ h => h, fun x h => (by
            cases h
            obtain ⟨_, _, _, _, _, _, _, _, _, hrd, _⟩ := freeLoad_some hf
            obtain ⟨b, hb, _⟩ := ob_some hrd
            exact ⟨List.mem_cons_self .., b, hb⟩), fun h => by cases h⟩
        | none =>
          rw [hf'] at hs1
          obtain ⟨r, hr, hs1⟩ := ob_some (show ob (stepD C fl ops s.rs o (maskOf s.rs.an o)) (fun r => bif lastK r.cl == 2 then ob (tgtOf s.rs.fr o) fun t => some ⟨r, s.ls, t :: s.ts⟩ else some ⟨r, s.ls, s.ts⟩) = some s1 from hs1)
          obtain ⟨k0, v0, D0, H0, hst⟩ := step_some h0 hr
          have hlast : lastK r.cl = k0 := by rw [hst.cl]; exact lastK_snoc _ _
          rw [hlast] at hs1
          cases hk : (k0 == 2) <;> rw [hk] at hs1 <;> simp only [cond_true, cond_false] at hs1
          · cases hs1
            exact ⟨k0, v0, D0, H0, none, hst, fun _ h => h, fun _ h => h, fun x h => (by cases h), fun h => by rw [h] at hk; cases hk⟩
          · obtain ⟨t, ht, hs1⟩ := ob_some hs1
            cases hs1
            exact ⟨k0, v0, D0, H0, none, hst, fun _ h => h, fun x h => List.mem_cons_of_mem _ h, fun x h => (by cases h), fun _ => ⟨t, ht, List.mem_cons_self ..⟩⟩
    obtain ⟨k0, v0, D0, H0, q0, b1, b2, b3, b4, b5⟩ := key
    refine ⟨fun i => match i with | 0 => s.rs | i + 1 => st i, fun i => match i with | 0 => k0 | i + 1 => k i, fun i => match i with | 0 => v0 | i + 1 => v i, fun i => match i with | 0 => D0 | i + 1 => D i, fun i => match i with | 0 => H0 | i + 1 => H i, fun i => match i with | 0 => q0 | i + 1 => q i,
      rfl, a2, fun x hx => a3 x (b2 x hx), fun x hx => a4 x (b3 x hx), fun i p hp => ?_⟩
    cases i with
    | zero =>
      simp at hp; subst hp
      refine ⟨?_, fun x hx => ⟨a3 x (b4 x hx).1, (b4 x hx).2⟩, fun h => ?_⟩
      · show Step C fl ops h0 s.rs o (maskOf s.rs.an o) (st 0) k0 v0 D0 H0 q0
        rw [a1]; exact b1
      · obtain ⟨t, h1, h2⟩ := b5 h
        exact ⟨t, h1, a4 t h2⟩
    | succ i => exact a5 i p (by simpa using hp)
theorem region_free_ok (hty : TyOk P C.ty) (hC : CtxOk P C) (hm : P.follows .mixedOrders = true) {opsA : Array Oper} {id : Nat} {Q : Exit → Act → World → Prop} {B : Nat} {s s' : St} {r : Ren} {a : Act} {w : World} (hr : Rel s r B a w)
    (hs : drawF C fl opsA.toList s = some s') (hq : ∀ r' a' w', Rel s' r' B a' w' → Adv fl s.h r w s'.h r' w' → a'.defers = a.defers → Q .normal a' w') : (Code.region id opsA true).wp P Q a w := by
  obtain ⟨σ, hσ, hs⟩ := ob_some hs
  cases hc : (σ.ls.all fun l => σ.ts.all fun t => !(t == l)) <;> rw [hc] at hs <;> simp only [cond_true, cond_false] at hs
  · cases hs
  cases hs
  obtain ⟨st, k, v, D, H, q, a1, a2, _, _, a5⟩ := freeR_some _ hσ
  have a1 : st 0 = ⟨s.fr, s.h.m, [], [], [], [], s.h.next⟩ := a1
  let T : Tr C fl opsA.toList s.fr s.h := ⟨st, k, v, D, H, q, a1, fun i o ho => (a5 i o ho).1⟩
  refine region_trace_ok hty hC hm hr T a2 (fun i l hin hl e he => ?_) hq
  -- nothing that is looked at at any time is written
  obtain ⟨_, g2, _⟩ := a5 i _ (List.getElem?_eq_getElem hin)
  obtain ⟨g3, b, hb⟩ := g2 l hl
  have hne : ∀ t, t ∈ σ.ts → l ≠ t := fun t ht e => by
    have := List.all_eq_true.1 (List.all_eq_true.1 hc l g3) t ht
    simp [e] at this
  have hln : l < s.h.next := hr.i.n l (hr.i.hr.dom l b hb)
  have hlow : ∀ e, e ≤ opsA.toList.length → Hp.get ((T.st e).ds.flatten ++ (T.st e).hb) l = Hp.get (T.st e).hb l := fun e he => by
    rw [Hp.get_append]
    cases hq' : Hp.get (T.st e).ds.flatten l with
    | none => rfl
    | some x =>
      exfalso
      obtain ⟨j, d, h1, h2⟩ := get_flatten _ hq'
      obtain ⟨h3, h4⟩ := T.ds e he
      have hj : j < e := by have := (List.getElem?_eq_some_iff.1 h1).1; omega
      rw [h4 j hj] at h1
      cases h1
      split at h2
      · have hjn : j < opsA.toList.length := by omega
        have hs := T.step j _ (List.getElem?_eq_getElem hjn)
        have h0 : s.h.next ≤ T.nx j := by have := T.nx_le (Nat.zero_le j) (Nat.le_of_lt hjn); rw [nx0] at this; exact this
        rcases hs.kind with ⟨_, hD, _⟩ | ⟨_, hD, _⟩ | ⟨_, hD, _⟩
        · rw [hD] at h2; cases h2
        · rw [hD] at h2
          have := (get_newD _ _ h2).2
          have h0' : s.h.next ≤ (T.st j).nx := h0
          omega
        · rw [hD] at h2; cases h2
      · cases h2
  induction e with
  | zero => rw [T.st0]
  | succ e ih =>
    have hen : e < opsA.toList.length := he
    have ih' := ih (by omega)
    have ho := List.getElem?_eq_getElem hen
    have hs := T.step e _ ho
    obtain ⟨_, _, h3⟩ := a5 e _ ho
    rcases hs.kind with ⟨_, _, h1, _⟩ | ⟨_, _, h1, _⟩ | ⟨hk, _, h1, _, _, _, w1, hh, hcc⟩
    · rw [h1]; exact ih'
    · rw [h1]; exact ih'
    · obtain ⟨t, ht, htm⟩ := h3 hk
      rw [h1]
      have h0 : s.h.next ≤ (T.st e).nx := by have := T.nx_le (Nat.zero_le e) (Nat.le_of_lt hen); rw [nx0] at this; exact this
      have hw2 : how C (T.st e).fr ⟨selD (maskOf (T.st e).an opsA.toList[e]) 0 (T.st e).ds ++ (T.st e).hb, (T.st e).nx⟩ ⟨(T.st e).ds.flatten ++ (T.st e).hb, (T.st e).nx⟩ fl opsA.toList[e].op = .w (some (T.v e, T.H e)) ∨ ∃ r, how C (T.st e).fr ⟨selD (maskOf (T.st e).an opsA.toList[e]) 0 (T.st e).ds ++ (T.st e).hb, (T.st e).nx⟩ ⟨(T.st e).ds.flatten ++ (T.st e).hb, (T.st e).nx⟩ fl opsA.toList[e].op = .qw r (some (T.v e, T.H e)) := by
        rcases hcc with h | ⟨r', h⟩ | ⟨f, as, h, _⟩
        · exact .inl (hh.trans h)
        · exact .inr ⟨r', hh.trans h⟩
        · exfalso
          have hcall := hh.trans h
          have ht : tgtOf (T.st e).fr opsA.toList[e] = some t := ht
          unfold tgtOf at ht
          split at ht
          · rename_i hop; rw [hop] at hcall; cases hcall
          · rename_i c hop
            split at ht
            · rename_i s0 rest hcal hargs
              rw [hop] at hcall
              simp only [how, hcal, howCall, howBuiltin] at hcall
              cases hcall
            · cases ht
          · cases ht
      have := store_get (C := C) (fl := fl) ht hw2 (hne t htm) (show l < (T.st e).nx by omega)
      rw [this, hlow e (by omega)]
      exact ih'
theorem region_draw_ok (hty : TyOk P C.ty) (hC : CtxOk P C) (hm : P.follows .mixedOrders = true) {opsA : Array Oper} {id : Nat} {Q : Exit → Act → World → Prop} {B : Nat} {s s' : St} {r : Ren} {a : Act} {w : World} (hr : Rel s r B a w)
    (hs : region C fl opsA.toList true s = some s') (hq : ∀ r' a' w', Rel s' r' B a' w' → Adv fl s.h r w s'.h r' w' → a'.defers = a.defers → Q .normal a' w') : (Code.region id opsA true).wp P Q a w := by
  have hs : orS (drawR C fl opsA.toList s) (drawF C fl opsA.toList s) = some s' := hs
  cases hd : drawR C fl opsA.toList s with
  | some x =>
    rw [hd] at hs
    cases hs
    exact region_any_ok hty hC hm hr hd hq
  | none =>
    rw [hd] at hs
    exact region_free_ok hty hC hm hr hs hq
end
end Go.Proofs.Ytbebbbclhgjcbaa.Am
/-! The abstract machine is sound: what it says a function comes to, it comes to. (No program in sight.) -/
namespace Go.Proofs.Ytbebbbclhgjcbaa.Am
open Go.RowKit
set_option linter.unusedSectionVars false
variable [Base]
section
variable {P : Program} {C : Ctx} {fl : Nat}

/-- how the machine's exits are the model's -/
def XR : X → Exit → Prop
  | .normal, .normal => True
  | .exit i, .exit j => i = j
  | .ret, .ret => True
  | _, _ => False
/-- what a piece of code comes to -/
def Out (fl B : Nat) (s : St) (r : Ren) (a : Act) (w : World) (x : X) (s' : St) (e : Exit) (a' : Act) (w' : World) : Prop :=
  XR x e ∧ ∃ r', Rel s' r' B a' w' ∧ Adv fl s.h r w s'.h r' w' ∧ a'.defers = a.defers
theorem Out.trans {B : Nat} {s s1 s2 : St} {r r1 : Ren} {a a1 a2 : Act} {w w1 w2 : World} {x : X} {e : Exit} (h0 : Rel s r B a w) (h1 : Rel s1 r1 B a1 w1) (h : Adv fl s.h r w s1.h r1 w1) (hd : a1.defers = a.defers) (k : Out fl B s1 r1 a1 w1 x s2 e a2 w2) : Out fl B s r a w x s2 e a2 w2 := by
  obtain ⟨h2, r', h3, h4, h5⟩ := k
  exact ⟨h2, r', h3, Adv.trans h0.i h1.i h h4, h5.trans hd⟩
/-- the code comes to what the machine says -/
def Does (P : Program) (C : Ctx) (fl n : Nat) (c : Code) : Prop :=
  ∀ {B : Nat} {s s' : St} {x : X} {r : Ren} {a : Act} {w : World}, Rel s r B a w → exec C fl n c s = some (x, s') → c.wp P (Out fl B s r a w x s') a w

/-- a loop comes to what is said of it -/
def LoopOk (P : Program) (L : Loops) (c : Code) : Prop :=
  ∀ {fl B : Nat} {s s' : St} {x : X} {r : Ren} {a : Act} {w : World}, Rel s r B a w → L c.tag fl s = some (x, s') → (Code.loop c).wp P (Out fl B s r a w x s') a w
/-- .. each loop of a piece of code -/
def Loops.ok (Q : Code → Prop) (c : Code) : Prop :=
  Code.rec (motive := fun _ => Prop) True (fun _ _ _ => True) (fun _ _ a b => a ∧ b) (fun _ _ _ a b => a ∧ b) (fun _ _ a => a) (fun c a => Q c ∧ a) (fun _ _ _ _ _ _ => True) (fun _ => True) (fun _ a => a) (fun _ => True) (fun _ => True) True (fun _ => True) c
theorem Loops.ok_all {Q : Code → Prop} (h : ∀ c, Q c) (c : Code) : Loops.ok Q c := by
  induction c with
  | seq c d hc hd => exact ⟨hc, hd⟩
  | cond c t e ht he => exact ⟨ht, he⟩
  | block id c hc => exact hc
  | loop c hc => exact ⟨h c, hc⟩
  | scope c hc => exact hc
  | _ => trivial
theorem LoopOk.none (c : Code) : LoopOk P (fun _ _ _ => none) c := fun _ h => by cases h
theorem thenX_some {r : XS} {k : St → XS} {x : X} {s : St} (h : thenX r k = some (x, s)) : (∃ s', r = some (.normal, s') ∧ k s' = some (x, s)) ∨ (r = some (x, s) ∧ x ≠ .normal) := by
  cases r with
  | none => cases h
  | some p =>
    obtain ⟨y, s'⟩ := p
    cases y with
    | normal => exact .inl ⟨s', rfl, h⟩
    | exit j => cases h; exact .inr ⟨rfl, fun e => by cases e⟩
    | ret => cases h; exact .inr ⟨rfl, fun e => by cases e⟩
theorem does_seq {n : Nat} {c d : Code} (hc : Does P C fl n c) (hd : Does P C fl n d) : Does P C fl n (.seq c d) := by
  intro B s s' x r a w hr hx
  refine wp_seq ?_
  rcases thenX_some (show thenX (exec C fl n c s) (exec C fl n d) = some (x, s') from hx) with ⟨s1, h1, h2⟩ | ⟨h1, h2⟩
  · refine wp_mono (hc hr h1) fun e a1 w1 ⟨h3, r1, h4, h5, h6⟩ => ?_
    cases e <;> simp only [XR] at h3
    exact wp_mono (hd h4 h2) fun e a2 w2 h7 => Out.trans hr h4 h5 h6 h7
  · refine wp_mono (hc hr h1) fun e a1 w1 h3 => ?_
    cases e with
    | normal => cases x <;> simp [Out, XR] at h3; exact absurd rfl h2
    | _ => exact h3
theorem does_rounds {n : Nat} {c : Code} (hc : Does P C fl n c) : ∀ (k : Nat) {B : Nat} {s s' : St} {x : X} {r : Ren} {a : Act} {w : World}, Rel s r B a w → rounds (exec C fl n c) k s = some (x, s') →
    ∀ (b : Frame) (K : List Item) (cs : List Frame), ∃ e a' w', Out fl B s r a w x s' e a' w' ∧ Arrives P (lone (b.at a (.code c :: .inLoop c :: K)) cs w) b K cs e a' w'
  | 0, _, _, _, _, _, _, _, _, h => by cases h
  | k + 1, B, s, s', x, r, a, w, hr, h => by
    intro b K cs
    rcases thenX_some (show thenX (exec C fl n c s) (rounds (exec C fl n c) k) = some (x, s') from h) with ⟨s1, h1, h2⟩ | ⟨h1, h2⟩
    · obtain ⟨e, a1, w1, ⟨h3, r1, h4, h5, h6⟩, harr⟩ := hc hr h1 b (.inLoop c :: K) cs
      cases e <;> simp only [XR] at h3
      obtain ⟨e2, a2, w2, ho, harr2⟩ := does_rounds hc k h4 h2 b K cs
      exact ⟨e2, a2, w2, Out.trans hr h4 h5 h6 ho, .of_steps (Steps.trans harr (.one step_inLoop)) harr2⟩
    · obtain ⟨e, a1, w1, ho, harr⟩ := hc hr h1 b (.inLoop c :: K) cs
      refine ⟨e, a1, w1, ho, .pass (x := .inLoop c) rfl (fun _ _ => .inl ?_) harr⟩
      intro he
      subst he
      cases x <;> simp [Out, XR] at ho
      exact h2 rfl
theorem does_loop {n : Nat} {c : Code} (hc : Does P C fl n c) {B : Nat} {s s' : St} {x : X} {r : Ren} {a : Act} {w : World} (hr : Rel s r B a w) (hx : rounds (exec C fl n c) n s = some (x, s')) : (Code.loop c).wp P (Out fl B s r a w x s') a w := by
  intro b K cs
  obtain ⟨e, a', w', ho, harr⟩ := does_rounds hc n hr hx b K cs
  exact ⟨e, a', w', ho, .of_steps (.one step_loop) harr⟩
theorem exec_ok (hty : TyOk P C.ty) (hC : CtxOk P C) (hm : P.follows .mixedOrders = true) (n : Nat) (c : Code) : Loops.ok (LoopOk P C.loop) c → Does P C fl n c := by
  induction c with
  | skip => intro _ B s s' x r a w hr hx; cases hx; exact wp_skip ⟨trivial, r, hr, Adv.refl fl hr.i, rfl⟩
  | label l => intro _ B s s' x r a w hr hx; cases hx; exact wp_label ⟨trivial, r, hr, Adv.refl fl hr.i, rfl⟩
  | region id ops draw =>
    intro _ B s s' x r a w hr hx
    obtain ⟨s1, h1, h2⟩ := ob_some (show ob (region C fl ops.toList draw s) nrm = some (x, s') from hx)
    cases h2
    cases draw with
    | true => exact region_draw_ok hty hC hm hr h1 fun r' a' w' g1 g2 g3 => ⟨trivial, r', g1, g2, g3⟩
    | false => exact wp_region_list (listR_ok hty hC ops.toList hr h1 fun r' a' w' g1 g2 g3 => ⟨trivial, r', g1, g2, g3⟩)
  | seq c d hc hd => exact fun hl => does_seq (hc hl.1) (hd hl.2)
  | cond c t e ht he =>
    intro hl B s s' x r a w hr hx
    obtain ⟨y, hy, hx⟩ := ob_some (show condX (evS s.fr c) (exec C fl n t s) (exec C fl n e s) = some (x, s') from hx)
    obtain ⟨b, hb, hx⟩ := ob_some hx
    have hv := isBool_ok hb (evS_ok hr.f hy)
    cases b
    · exact wp_cond_false hv (he hl.2 hr hx)
    · exact wp_cond_true hv (ht hl.1 hr hx)
  | block id c hc =>
    intro hl B s s' x r a w hr hx
    have hx : blockX id (exec C fl n c s) = some (x, s') := hx
    refine wp_block ?_
    cases he : exec C fl n c s with
    | none => rw [he] at hx; cases hx
    | some p =>
      obtain ⟨y, s1⟩ := p
      rw [he] at hx
      refine wp_mono (hc hl hr he) fun e a1 w1 ⟨h3, r1, h4, h5, h6⟩ => ?_
      cases y with
      | normal => cases hx; cases e <;> simp only [XR] at h3; exact ⟨trivial, r1, h4, h5, h6⟩
      | ret => cases hx; cases e <;> simp only [XR] at h3; exact ⟨trivial, r1, h4, h5, h6⟩
      | exit j =>
        cases e <;> simp only [XR] at h3
        subst h3
        have hx : (bif j == id then nrm s1 else some (.exit j, s1)) = some (x, s') := hx
        cases hj : (j == id) <;> rw [hj] at hx <;> cases hx
        · have : j ≠ id := by simpa using hj
          simp only [Exit.inBlock, if_neg this]
          exact ⟨rfl, r1, h4, h5, h6⟩
        · have : j = id := by simpa using hj
          simp only [Exit.inBlock, if_pos this]
          exact ⟨trivial, r1, h4, h5, h6⟩
  | loop c hc =>
    intro hl B s s' x r a w hr hx
    have hx : orXS (C.loop c.tag fl s) (rounds (exec C fl n c) n s) = some (x, s') := hx
    cases ho : C.loop c.tag fl s with
    | none => rw [ho] at hx; exact does_loop (hc hl.2) hr hx
    | some p => rw [ho] at hx; cases hx; exact hl.1 hr ho
  | rangeFunc f ps as b h1 h2 => intro _ B s s' x r a w hr hx; cases hx
  | exit id => intro _ B s s' x r a w hr hx; cases hx; exact wp_exit ⟨rfl, r, hr, Adv.refl fl hr.i, rfl⟩
  | scope c hc =>
    intro hl B s s' x r a w hr hx
    refine wp_scope_straight (wp_mono (hc hl hr hx) fun e a1 w1 h => ?_)
    cases e <;> first | exact h | (obtain ⟨h, _⟩ := h; cases x <;> simp [XR] at h)
  | goto l => intro _ B s s' x r a w hr hx; cases hx
  | ret => intro _ B s s' x r a w hr hx; cases hx; exact wp_ret ⟨trivial, r, hr, Adv.refl fl hr.i, rfl⟩
  | refuse y => intro _ B s s' x r a w hr hx; cases hx

theorem flat_ok {r r' : Ren} {x : S} (h : x.flat = true) {u : Value} (hu : VS r x u) : VS r' x u := by
  cases x <;> simp [S.flat] at h <;> exact hu
theorem flatS_ok {r r' : Ren} : ∀ {l : List S} {vs : List Value}, l.all S.flat = true → All2 (VS r) l vs → All2 (VS r') l vs
  | [], [], _, _ => trivial
  | [], _ :: _, _, h => h.elim
  | _ :: _, [], _, h => h.elim
  | x :: l, v :: vs, h, k => by
    simp only [List.all_cons, Bool.and_eq_true] at h
    exact ⟨flat_ok h.1 k.1, flatS_ok h.2 k.2⟩
theorem flatA_ok {r r' : Ren} {x : A} (h : x.flat = true) {u : Value} (hu : VA r x u) : VA r' x u := by
  cases x with
  | s x => simp [A.flat, A.cells] at h; exact flat_ok h hu
  | g l =>
    obtain ⟨vs, rfl, hl⟩ := hu
    exact ⟨vs, rfl, flatS_ok h hl⟩
theorem flats_ok {r r' : Ren} : ∀ {l : List A} {vs : List Value}, l.all A.flat = true → All2 (VA r) l vs → All2 (VA r') l vs
  | [], [], _, _ => trivial
  | [], _ :: _, _, h => h.elim
  | _ :: _, [], _, h => h.elim
  | x :: l, v :: vs, h, k => by
    simp only [List.all_cons, Bool.and_eq_true] at h
    exact ⟨flatA_ok h.1 k.1, flats_ok h.2 k.2⟩

def resS (tmps : Array Value) (q : ResultVar) : Sem Value := match q with | .tmp t => pure (tmps.getD t Go.undef) | .cell y t => do loadVar t (← asAddr (tmps.getD y Go.undef))
theorem results_eq (fn : Func) (tmps : Array Value) : results fn tmps = (do let vs ← fn.results.mapM (resS tmps); pure (if h : vs.size = 1 then vs[0] else .tuple vs)) := rfl
theorem resOf_ok (hty : TyOk P C.ty) {B : Nat} {s : St} {r : Ren} {a : Act} {w : World} (hr : Rel s r B a w) {q : ResultVar} {x : A} (h : resOf C s q = some x) :
    ∃ u, (resS a.tmps q).run P w = .ok u w ∧ VA r x u := by
  unfold resOf at h
  split at h
  · rename_i t
    obtain ⟨v, hv, h⟩ := ob_some h
    have := ev_ok hr.f (x := .tmp t) hv
    cases v with
    | a y => cases h; exact ⟨_, rfl, this⟩
    | t l => cases h
    | any => cases h
  · rename_i y t
    obtain ⟨T, hT, h⟩ := ob_some h
    obtain ⟨v, hv, h⟩ := ob_some h
    obtain ⟨z, hz, h⟩ := ob_some h
    obtain ⟨z', hz', h⟩ := ob_some h
    obtain ⟨p, hp, h⟩ := ob_some h
    obtain ⟨cs, hcs, h⟩ := ob_some h
    have hptr : evPtr s.fr (.tmp y) = some p := by
      show ob (ob (ob (nth s.fr y) V.isA) A.isS) S.isPtr = some p
      rw [hv]; simp [hz, hz', hp]
    obtain ⟨h1, h2⟩ := evPtr_ok hr.f hptr
    obtain ⟨u, hu, hx⟩ := load_ok (P := P) hty hr.i hT hcs h
    have h2' : a.tmps.getD y Go.undef = .pointer (some (r.at p.1 p.2)) := h2
    refine ⟨u, ?_, hx⟩
    simp only [Instr.loadAt, Instr.sureAddr, Sem.run_bind, Sem.run_pure, Result.andThen_ok] at hu
    simp [resS, h2', asAddr, hu]
def joined (vs : List Value) : Value := match vs with | [v] => v | vs => .tuple vs.toArray
theorem join_eq : ∀ vs : List Value, (if h : vs.toArray.size = 1 then vs.toArray[0] else .tuple vs.toArray) = joined vs
  | [] => rfl
  | [v] => rfl
  | v :: u :: vs => by
    rw [dif_neg (by simp)]
    rfl
theorem joined_ok {r : Ren} {rs : List A} {vs : List Value} (h : All2 (VA r) rs vs) : VV r (resV rs) (joined vs) := by
  cases rs with
  | nil => cases vs with
    | nil => exact ⟨[], rfl, trivial⟩
    | cons v vs => exact h.elim
  | cons x rs => cases vs with
    | nil => exact h.elim
    | cons v vs => cases rs with
      | nil => cases vs with
        | nil => exact h.1
        | cons _ _ => exact h.2.elim
      | cons y rs => cases vs with
        | nil => exact h.2.elim
        | cons u vs => exact ⟨v :: u :: vs, rfl, h⟩
theorem results_ok (hty : TyOk P C.ty) {B : Nat} {s : St} {r : Ren} {a : Act} {w : World} (hr : Rel s r B a w) {fn : Func} {rs : List A} (h : mapO (resOf C s) fn.results.toList = some rs) :
    ∃ vs : List Value, (results fn a.tmps).run P w = .ok (joined vs) w ∧ All2 (VA r) rs vs := by
  have key : ∀ (l : List ResultVar) (rs : List A), mapO (resOf C s) l = some rs → ∃ vs : List Value, All2 (VA r) rs vs ∧
      (l.mapM (resS a.tmps)).run P w = .ok vs w := by
    intro l
    induction l with
    | nil => intro rs h; cases h; exact ⟨[], trivial, by simp⟩
    | cons q l ih =>
      intro rs h
      rw [mapO_cons] at h
      obtain ⟨x, hx, h⟩ := ob_some h
      obtain ⟨rs', hrs, h⟩ := ob_some h
      cases h
      obtain ⟨u, hu, hv⟩ := resOf_ok hty hr hx
      obtain ⟨vs, h1, h2⟩ := ih rs' hrs
      refine ⟨u :: vs, ⟨hv, h1⟩, ?_⟩
      rw [List.mapM_cons]
      simp only [Sem.run_bind, hu, Result.andThen_ok, h2, Sem.run_pure]
  obtain ⟨vs, h1, h2⟩ := key fn.results.toList rs h
  refine ⟨vs, ?_, h1⟩
  rw [results_eq, Array.mapM_eq_mapM_toList]
  simp only [Sem.run_bind, Sem.run_map, h2, Result.andThen_ok, Sem.run_pure]
  congr 1
  exact join_eq vs

theorem replicate_all2 {α β : Type} {R : α → β → Prop} {x : α} {y : β} (h : R x y) : ∀ n, All2 R (List.replicate n x) (List.replicate n y)
  | 0 => trivial
  | n + 1 => ⟨h, replicate_all2 h n⟩
theorem args_ok {r : Ren} : ∀ {as : List A} {vs : List Value}, All2 (VA r) as vs → All2 (VV r) (as.map V.a) vs
  | [], [], _ => trivial
  | [], _ :: _, h => h.elim
  | _ :: _, [], h => h.elim
  | _ :: _, _ :: _, h => ⟨h.1, args_ok h.2⟩

theorem body_ok (hty : TyOk P C.ty) (hC : CtxOk P C) (hm : P.follows .mixedOrders = true) {n : Nat} {f : FuncId} {fn : Func} (hf : P.funcs[f]? = some fn) (hL : ∀ c, fn.body = some c → Loops.ok (LoopOk P C.loop) c) {args : List A} {h : Heap} {v : V} {h' : Heap} (hb : body C n fn args h fl = some (v, h'))
    {r : Ren} {B : Nat} {w : World} {vs : List Value} (hi : Inv h r B w) (hargs : All2 (VA r) args vs) : Calls P f vs.toArray w fun e w' => ∃ u, e = .returned u ∧ Post B fl h r w v h' u w' := by
  obtain ⟨c, hc, hb⟩ := ob_some hb
  obtain ⟨p, hp, hb⟩ := ob_some hb
  obtain ⟨x, s'⟩ := p
  have hlen := hargs.len
  have hrel : Rel ⟨args.map V.a ++ List.replicate (fn.ntmps - args.length) undef, h⟩ r B { tmps := vs.toArray ++ Array.replicate (fn.ntmps - vs.toArray.size) Go.undef, defers := [] } w := by
    refine ⟨?_, hi⟩
    show All2 (VV r) _ (vs.toArray ++ Array.replicate (fn.ntmps - vs.toArray.size) Go.undef).toList
    simp only [Array.toList_append, Array.toList_replicate, List.size_toArray]
    rw [hlen]
    exact (args_ok hargs).app (replicate_all2 VS.undef _)
  have hend : ∀ a' w' r', Rel s' r' B a' w' → Adv fl h r w s'.h r' w' → bodyEnd C fn h fl s' = some (v, h') → ∃ u, (results fn a'.tmps).run P w' = .ok u w' ∧ Post B fl h r w v h' u w' := by
    intro a' w' r' h1 h2 h3
    obtain ⟨rs, hrs, h3⟩ := ob_some h3
    obtain ⟨us, hu, hus⟩ := results_ok (P := P) hty h1 hrs
    refine ⟨_, hu, ?_⟩
    cases hk : Nat.ble h.next fl <;> rw [hk] at h3 <;> simp only [cond_true, cond_false] at h3
    · cases h3
      exact ⟨r', h1.i, joined_ok hus, h2⟩
    cases hk2 : rs.all A.flat <;> rw [hk2] at h3 <;> simp only [cond_true, cond_false] at h3 <;> cases h3
    · obtain ⟨t1, t2⟩ := trim_weak h.next rs s'.h r'
      exact ⟨r', t1.inv h1.i, joined_ok hus, t1.adv (fun l hl _ => t2 l hl) h2⟩
    · have hfl := Nat.le_of_ble_eq_true hk
      have hold : ∀ b, b < w.heap.size → w'.heap[b]? = w.heap[b]? := fun b hb => h2.frame b hb fun l k hl _ hfl' => by
        have := hi.n l (hi.hr.dom l k hl); omega
      exact ⟨r, ⟨hi.n, Nat.le_trans hi.b h2.size, hi.hr.keep hi.b hold⟩, joined_ok (flats_ok hk2 hus), Ren.le.refl r, Nat.le_refl _, fun _ h => .inl h, h2.os, h2.tape, h2.output, h2.size, fun b hb _ => hold b hb,
        fun _ _ _ => rfl, fun _ b' _ h => ⟨b', h, rfl⟩, fun l b' hl hb => absurd (hi.n l (hi.hr.dom l b' hb)) (Nat.not_lt.2 hl)⟩
  refine calls_of_wp hf hc (wp_mono (exec_ok hty hC hm n c (hL c hc) hrel hp) fun e a' w' ⟨h1, r', h2, h3, h4⟩ => ?_)
  cases x with
  | exit j => cases hb
  | normal =>
    cases e <;> simp only [XR] at h1
    obtain ⟨u, hu, hP⟩ := hend a' w' r' h2 h3 hb
    exact ⟨h4, u, hu, u, rfl, hP⟩
  | ret =>
    cases e <;> simp only [XR] at h1
    obtain ⟨u, hu, hP⟩ := hend a' w' r' h2 h3 hb
    exact ⟨h4, u, hu, u, rfl, hP⟩

/-! values without references -/
def r0 : Ren := ⟨fun _ => False, fun _ => 0, fun _ => 0, fun _ => 0⟩
theorem V.flat_any {x : V} (h : x.flat = true) {r r' : Ren} {u : Value} (k : VV r x u) : VV r' x u := by
  cases x with
  | a x => exact flatA_ok h k
  | t l => obtain ⟨us, e, k⟩ := k; exact ⟨us, e, flats_ok h k⟩
  | any => cases h

/-- a step that leaves everything that was there -/
theorem Post.below {B fl : Nat} {h : Heap} {r : Ren} {w : World} {v : V} {u : Value} {w' : World} (hi : Inv h r B w) (hb : Below w.heap.size w w') (hv : VV r v u) : Post B fl h r w v h u w' :=
  ⟨r, ⟨hi.n, Nat.le_trans hi.b hb.size, hi.hr.keep hi.b hb.block⟩, hv, Ren.le.refl r, Nat.le_refl _, fun _ h => .inl h, hb.os, hb.tape, hb.output, hb.size, fun b hlt _ => hb.block b hlt, fun _ _ _ => rfl, fun _ b' _ h => ⟨b', h, rfl⟩,
    fun l b' hl hb' => absurd (hi.n l (hi.hr.dom l b' hb')) (Nat.not_lt.2 hl)⟩
theorem S.force_eq {β : Type} (x : S) (k : S → β) : x.force k = k x := by cases x <;> rfl
theorem forceS_eq {β : Type} : ∀ (l : List S) (k : List S → β), forceS l k = k l
  | [], _ => rfl
  | x :: l, k => by
    show x.force (fun x => forceS l fun t => k (x :: t)) = _
    rw [S.force_eq, forceS_eq l]
theorem A.force_eq {β : Type} (x : A) (k : A → β) : x.force k = k x := by
  cases x with
  | s x => exact S.force_eq x fun x => k (.s x)
  | g l => exact forceS_eq l fun l => k (.g l)
theorem forceA_eq {β : Type} : ∀ (l : List A) (k : List A → β), forceA l k = k l
  | [], _ => rfl
  | x :: l, k => by
    show x.force (fun x => forceA l fun t => k (x :: t)) = _
    rw [A.force_eq, forceA_eq l]
theorem callF_ok {C : Ctx} {F : Func} {f : FuncId} {n : Nat} {args : List A} {h : Heap} {fl : Nat} {v : V} {h' : Heap} (hty : TyOk P C.ty) (hC : CtxOk P C) (hm : P.follows .mixedOrders = true) (hf : P.funcs[f]? = some F) (hL : ∀ c, F.body = some c → Loops.ok (LoopOk P C.loop) c)
    (hr : callF C n F args h fl = some (v, h')) : F.body.isNone = false ∧ ∀ r B w vs, Inv h r B w → All2 (VA r) args vs → Calls P f vs.toArray w fun e w' => ∃ u, e = .returned u ∧ Post B fl h r w v h' u w' := by
  unfold callF at hr
  cases hc : (flatF C.ty F && args.all A.flat) <;> rw [hc] at hr <;> simp only [cond_true, cond_false] at hr
  · obtain ⟨c, hc', _⟩ := ob_some hr
    exact ⟨by rw [hc']; rfl, fun r B w vs hi ha => body_ok hty hC hm hf hL hr hi ha⟩
  · rw [forceA_eq] at hr
    obtain ⟨p, hp, hr⟩ := ob_some hr
    cases hv : p.1.flat <;> rw [hv] at hr <;> simp only [cond_true, cond_false] at hr <;> cases hr
    obtain ⟨c, hc', _⟩ := ob_some hp
    simp only [Bool.and_eq_true] at hc
    refine ⟨by rw [hc']; rfl, fun r B w vs hi ha => ?_⟩
    have hi0 : Inv ⟨[], 0⟩ r0 w.heap.size w :=
      ⟨fun l h => h.elim, Nat.le_refl _, fun l b h => (by cases h), fun l b h => (by cases h), fun l b h => (by cases h), fun l b l' b' h => (by cases h), Nat.le_trans hi.hr.nb hi.b, hi.hr.z⟩
    refine (body_ok (v := p.1) (h' := p.2) hty hC hm hf hL hp hi0 (flats_ok hc.2 ha)).mono fun e w' ⟨u, e1, r', i, e2, ad⟩ => ⟨u, e1, Post.below hi ⟨ad.os, ad.tape, ad.output, ad.size, fun k hk => ad.frame k hk fun l c hl _ _ => by cases hl⟩ (V.flat_any hv e2)⟩
/-- the functions are the program's -/
def FnOk (P : Program) (fn : FuncId → Option Func) : Prop := ∀ f F, fn f = some F → P.funcs[f]? = some F ∧ (F.name == "runtime.NumGoroutine") = false
theorem runsL_ok {ty : Tys} (hty : TyOk P ty) {fn : FuncId → Option Func} (hfn : FnOk P fn) {lib : Oracle} (hl : Sound P lib) (hm : P.follows .mixedOrders = true) {tb : Tabs} (htb : TabsOk tb) {loops : FuncId → Loops}
    (hL : ∀ f F c, P.funcs[f]? = some F → F.body = some c → Loops.ok (LoopOk P (loops f)) c) (n : Nat) : ∀ d, Sound P (runsL ty fn lib tb loops n d)
  | 0 => fun f args h fl v h' hr => by cases hr
  | d + 1 => fun f args h fl v h' hr => by
    have hr : orR (lib f args h fl) (ob (fn f) fun F => callF ⟨ty, runsL ty fn lib tb loops n d, tb, loops f⟩ n F args h fl) = some (v, h') := hr
    cases hlib : lib f args h fl with
    | some x => rw [hlib] at hr; cases hr; exact hl _ _ _ _ _ _ hlib
    | none =>
      rw [hlib] at hr
      obtain ⟨F, hF, hb⟩ := ob_some (show ob (fn f) (fun F => callF ⟨ty, runsL ty fn lib tb loops n d, tb, loops f⟩ n F args h fl) = some (v, h') from hr)
      obtain ⟨h1, h2⟩ := hfn f F hF
      obtain ⟨hc, hk⟩ := callF_ok (C := ⟨ty, runsL ty fn lib tb loops n d, tb, loops f⟩) hty ⟨runsL_ok hty hfn hl hm htb hL n d, htb⟩ hm h1 (fun c hc => hL f F c h1 hc) hb
      exact ⟨⟨F, h1, h2, hc⟩, hk⟩
theorem runs_ok {ty : Tys} (hty : TyOk P ty) {fn : FuncId → Option Func} (hfn : FnOk P fn) {lib : Oracle} (hl : Sound P lib) (hm : P.follows .mixedOrders = true) (n : Nat) (d : Nat) : Sound P (runs ty fn lib n d) :=
  runsL_ok hty hfn hl hm TabsOk.nought (fun _ _ _ _ _ => Loops.ok_all (LoopOk.none) _) n d
end
end Go.Proofs.Ytbebbbclhgjcbaa.Am
/-! The abstract machine and the contracts of a library; its word on a call, out of the machine. (No program in sight.) -/
namespace Go.Proofs.Ytbebbbclhgjcbaa.Am
open Go.RowKit
set_option linter.unusedSectionVars false

/-- what holds of every memory whose first blocks are these -/
def Holds0 [Base] (Q : World → Prop) : Prop := ∀ w : World, (∀ b, b < Base.nb → w.heap[b]? = Base.g b) → Q w

section
variable [Base] {P : Program}
theorem sound_or {O O' : Oracle} (h : Sound P O) (k : Sound P O') : Sound P (fun f args h fl => orR (O f args h fl) (O' f args h fl)) := by
  intro f args h' fl v h'' e
  have e : orR (O f args h' fl) (O' f args h' fl) = some (v, h'') := e
  cases ho : O f args h' fl with
  | none => rw [ho] at e; exact k f args h' fl v h'' e
  | some x => rw [ho] at e; cases e; exact h f args h' fl v h'' ho
/-- a function that only computes -/
noncomputable def pureO (f0 : FuncId) (g : List A → Option V) : Oracle := fun f args h _ => bif f == f0 then ob (g args) (fun v => some (v, h)) else none
theorem sound_pure {f0 : FuncId} {g : List A → Option V} (hc : Callable P f0)
    (hg : ∀ args v, g args = some v → ∀ (r : Ren) (vs : List Value), All2 (VA r) args vs → Holds0 fun w => Calls P f0 vs.toArray w fun e w' => ∃ u, e = .returned u ∧ VV r v u ∧ Below w.heap.size w w') : Sound P (pureO f0 g) := by
  intro f args h fl v h' e
  unfold pureO at e
  cases hf : (f == f0) <;> rw [hf] at e <;> simp only [cond_true, cond_false] at e
  · cases e
  obtain rfl : f = f0 := by simpa using hf
  obtain ⟨v', hv, e⟩ := ob_some e
  cases e
  exact ⟨hc, fun r B w vs hi ha => (hg args v hv r vs ha w hi.hr.z).mono fun e w' ⟨u, e1, e2, e3⟩ => ⟨u, e1, Post.below hi e3 e2⟩⟩
end

/-- the machine's word on a call, for whoever calls -/
theorem calls_of_sound [Base] {P : Program} {O : Oracle} (hO : Sound P O) {f : FuncId} {args : List A} {h : Heap} {v : V} {h' : Heap} (hr : O f args h h.next = some (v, h')) {r : Ren} {w : World} {vs : List Value} (hi : Inv h r w.heap.size w) (ha : All2 (VA r) args vs) :
    Calls P f vs.toArray w fun e w' => ∃ u r', e = .returned u ∧ VV r' v u ∧ Inv h' r' w.heap.size w' ∧ Below w.heap.size w w' := by
  obtain ⟨_, hc⟩ := hO _ _ _ _ _ _ hr
  refine (hc r w.heap.size w vs hi ha).mono fun e w' ⟨u, e1, r', i, e2, ad⟩ => ⟨u, r', e1, e2, i, ⟨ad.os, ad.tape, ad.output, ad.size, fun k hk => ad.frame k hk fun l c hl _ hfl => ?_⟩⟩
  have := hi.n l (hi.hr.dom l c hl)
  omega
/-- the answer is this truth value -/
def tells (b : Bool) (x : Option (V × Heap)) : Bool := match x with
  | some (.a (.s (.bool c)), _) => c == b
  | _ => false
/-- nothing is known, nothing is left open -/
abbrev Base.plain (nb : Nat) (w0 : World) : Base := { Know.nought with nb := nb, g := fun b => w0.heap[b]?, rho := fun _ => 0, sig := fun _ => [], ok := KnowOk.nought _ _ }
/-- .. this is known -/
abbrev Base.known (K : Know) {rho : Nat → Int} {sig : Nat → List UInt8} (ok : KnowOk K rho sig) (nb : Nat) (w0 : World) : Base := { K with nb := nb, g := fun b => w0.heap[b]?, rho := rho, sig := sig, ok := ok }

/-- the machine's word on a call whose arguments hold no references -/
theorem calls_flat [b : Base] {P : Program} (w : World) (hnb : Base.nb ≤ w.heap.size) (hg : ∀ k, k < Base.nb → w.heap[k]? = Base.g k) {O : Oracle} (hO : Sound P O) {f : FuncId} {args : List A} {vs : List Value} (ha : All2 (VA r0) args vs) {v : V} {h' : Heap} (hr : O f args ⟨[], 0⟩ 0 = some (v, h')) :
    Calls P f vs.toArray w fun e w' => ∃ u r', e = .returned u ∧ VV r' v u ∧ Below w.heap.size w w' := by
  have hi : Inv ⟨[], 0⟩ r0 w.heap.size w :=
    ⟨fun l h => h.elim, Nat.le_refl _, fun l b h => (by cases h), fun l b h => (by cases h), fun l b h => (by cases h), fun l b l' b' h => (by cases h), hnb, hg⟩
  exact (calls_of_sound hO hr hi ha).mono fun e w' ⟨u, r', e1, e2, _, e3⟩ => ⟨u, r', e1, e2, e3⟩
/-- .. and whose answer is a truth value -/
theorem calls_bool [b : Base] {P : Program} (w : World) (hnb : Base.nb ≤ w.heap.size) (hg : ∀ k, k < Base.nb → w.heap[k]? = Base.g k) {O : Oracle} (hO : Sound P O) {f : FuncId} {args : List A} {vs : List Value} (ha : All2 (VA r0) args vs) {c : Bool} (hr : tells c (O f args ⟨[], 0⟩ 0) = true) :
    Calls P f vs.toArray w fun e w' => e = .returned (.bool c) ∧ Below w.heap.size w w' := by
  unfold tells at hr
  split at hr
  · rename_i c' h' he
    refine (calls_flat w hnb hg hO ha he).mono fun e w' ⟨u, r', e1, e2, e3⟩ => ⟨?_, e3⟩
    have hc : c' = c := by simpa using hr
    subst hc
    cases e2
    exact e1
  · cases hr
/-- a call without arguments -/
theorem calls_closed {P : Program} {nb : Nat} (w : World) (hnb : nb ≤ w.heap.size) {O : Oracle} (hO : @Sound (Base.plain nb w) P O) {f : FuncId} {b : Bool} (hr : tells b (O f [] ⟨[], 0⟩ 0) = true) :
    Calls P f #[] w fun e w' => e = .returned (.bool b) ∧ Below w.heap.size w w' :=
  @calls_bool (Base.plain nb w) P w hnb (fun _ _ => rfl) O hO f [] [] trivial b hr

/-! a table of calls -/
def S.same (x y : S) : Bool :=
  match x, y with
  | .bool a, .bool b => a == b
  | .int k a, .int l b => k == l && decide (a = b)
  | .str a, .str b => sameX (a.map UInt8.toNat) (b.map UInt8.toNat)
  | .xi k i, .xi l j => k == l && Nat.beq i j
  | .xs a, .xs b => sameX a b
  | .nilp, .nilp => true
  | .nils, .nils => true
  | .nili, .nili => true
  | _, _ => false
def sameL {α : Type} (f : α → α → Bool) : List α → List α → Bool
  | [], [] => true
  | x :: r, y :: s => f x y && sameL f r s
  | _, _ => false
def A.same (x y : A) : Bool := match x, y with | .s x, .s y => x.same y | .g l, .g m => sameL S.same l m | _, _ => false
theorem same0 : ∀ {a b : List Nat}, sameX a b = true → a = b
  | [], [], _ => rfl
  | a :: r, b :: s, h => by
    simp only [sameX, Bool.and_eq_true] at h
    rw [Nat.eq_of_beq_eq_true h.1, same0 h.2]
  | [], _ :: _, h => by cases h
  | _ :: _, [], h => by cases h
theorem u8s_inj : ∀ {a b : List UInt8}, a.map UInt8.toNat = b.map UInt8.toNat → a = b
  | [], [], _ => rfl
  | x :: a, y :: b, h => by
    simp only [List.map_cons, List.cons.injEq] at h
    rw [UInt8.toNat_inj.1 h.1, u8s_inj h.2]
  | [], _ :: _, h => by cases h
  | _ :: _, [], h => by cases h
theorem S.same_ok {x y : S} (h : x.same y = true) : x = y ∧ x.flat = true := by
  unfold S.same at h
  split at h
  · simp at h; subst h; exact ⟨rfl, rfl⟩
  · simp at h; obtain ⟨rfl, rfl⟩ := h; exact ⟨rfl, rfl⟩
  · rw [u8s_inj (same0 h)]; exact ⟨rfl, rfl⟩
  · simp only [Bool.and_eq_true, beq_iff_eq] at h
    obtain ⟨rfl, h⟩ := h
    rw [Nat.eq_of_beq_eq_true h]
    exact ⟨rfl, rfl⟩
  · rw [same0 h]; exact ⟨rfl, rfl⟩
  · exact ⟨rfl, rfl⟩
  · exact ⟨rfl, rfl⟩
  · exact ⟨rfl, rfl⟩
  · cases h
theorem sameL_ok {α : Type} {f : α → α → Bool} {g : α → Bool} (hf : ∀ x y, f x y = true → x = y ∧ g x = true) : ∀ {l m : List α}, sameL f l m = true → l = m ∧ l.all g = true
  | [], [], _ => ⟨rfl, rfl⟩
  | [], _ :: _, h => by cases h
  | _ :: _, [], h => by cases h
  | x :: l, y :: m, h => by
    simp only [sameL, Bool.and_eq_true] at h
    obtain ⟨rfl, h1⟩ := hf _ _ h.1
    obtain ⟨rfl, h2⟩ := sameL_ok hf h.2
    exact ⟨rfl, by simp [h1] at h2 ⊢; exact h2⟩
theorem A.same_ok {x y : A} (h : x.same y = true) : x = y ∧ x.flat = true := by
  unfold A.same at h
  split at h
  · obtain ⟨rfl, h1⟩ := S.same_ok h
    exact ⟨rfl, by simp [A.flat, A.cells, h1]⟩
  · obtain ⟨rfl, h1⟩ := sameL_ok (fun x y => S.same_ok) h
    exact ⟨rfl, h1⟩
  · cases h
/-- one row of the table -/
def RowOk [Base] (P : Program) (f : FuncId) (args : List A) (v : V) : Prop :=
  Callable P f ∧ v.flat = true ∧ ∀ vs, All2 (VA r0) args vs → Holds0 fun w => Calls P f vs.toArray w fun e w' => ∃ u, e = .returned u ∧ VV r0 v u ∧ Below w.heap.size w w'
/-- the machine's word, as a row -/
theorem RowOk.run [Base] {P : Program} (hnb : ∀ w : World, (∀ k, k < Base.nb → w.heap[k]? = Base.g k) → Base.nb ≤ w.heap.size) {O : Oracle} (hO : Sound P O) {f : FuncId} {args : List A} {v : V} {h' : Heap} (hr : O f args ⟨[], 0⟩ 0 = some (v, h')) (hv : v.flat = true) : RowOk P f args v :=
  ⟨(hO _ _ _ _ _ _ hr).1, hv, fun _ ha w hw => (calls_flat w (hnb w hw) hw hO ha hr).mono fun _ _ ⟨u, _, e1, e2, e3⟩ => ⟨u, e1, V.flat_any hv e2, e3⟩⟩
end Go.Proofs.Ytbebbbclhgjcbaa.Am
/-! Arguments without references: structs of numbers and truth values, opened; what is known of them. (No program in sight.) -/
namespace Go.Proofs.Ytbebbbclhgjcbaa.Am
open Go.RowKit Go.ChangeShapes Go.WideShapes
set_option linter.unusedSectionVars false

/-- kinds of one cell -/
inductive Kd where
  | b
  | i (k : IntKind)
  | s
def Kd.ok (kd : Kd) (v : Value) : Prop :=
  match kd with
  | .b => ∃ x : Bool, v = .bool x
  | .i k => ∃ n : Int, v = .int k n ∧ k.min ≤ n ∧ n ≤ k.max
  | .s => ∃ s : ByteArray, v = .string s ∧ (s.size : Int) ≤ IntKind.i64.max
def kdOf (P : Program) (t : TypeId) : Option Kd :=
  match P.underlying t with
  | some .bool => some .b
  | some (.int k) => some (.i k)
  | some .string => some .s
  | _ => none
theorem all2_by_nth {α β : Type} {R : α → β → Prop} : ∀ {l : List α} {r : List β}, l.length = r.length → (∀ (i : Nat) (a : α) (b : β), l[i]? = some a → r[i]? = some b → R a b) → All2 R l r
  | [], [], _, _ => trivial
  | x :: l, y :: r, hl, h => ⟨h 0 x y rfl rfl, all2_by_nth (by simpa using hl) fun i a b ha hb => h (i + 1) a b (by simpa using ha) (by simpa using hb)⟩
  | [], _ :: _, hl, _ => by simp at hl
  | _ :: _, [], hl, _ => by simp at hl
/-! what is known -/
theorem hasPair_mem {i j : Nat} : ∀ {l : List (Nat × Nat)}, hasPair l i j = true → (i, j) ∈ l
  | [], h => by cases h
  | (p, q) :: t, h => by
    have h : ((Nat.beq p i && Nat.beq q j) || hasPair t i j) = true := h
    simp only [Bool.or_eq_true, Bool.and_eq_true] at h
    rcases h with ⟨h1, h2⟩ | h
    · rw [Nat.eq_of_beq_eq_true h1, Nat.eq_of_beq_eq_true h2]; simp
    · simp [hasPair_mem h]
noncomputable def valI (l : List Int) : Nat → Int := fun i => (nth l i).getD 0
noncomputable def valS (l : List (List UInt8)) : Nat → List UInt8 := fun i => (nth l i).getD []
end Go.Proofs.Ytbebbbclhgjcbaa.Am
