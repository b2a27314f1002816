/- The abstract machine's memory. (No program in sight.) -/
import Derived.Test.YtaamdiknefodgaaDoorAmHow
import Derived.Laws.AppendOwn
import Derived.Laws.MakeOwn
import Derived.Laws.IdiomCopy
import Derived.Lib.ConvBytes
namespace Go.Proofs.YtaamdiknefodgaaDoor.Am
set_option linter.unusedSectionVars false
variable [Base]

theorem Hp.get_nil (l : Nat) : Hp.get [] l = none := rfl
theorem Hp.get_cons (p : Nat × Blk) (t : Hp) (l : Nat) : Hp.get (p :: t) l = bif p.1 == l then some p.2 else Hp.get t l := rfl
theorem Hp.set_cons (p : Nat × Blk) (t : Hp) (l : Nat) (c : Blk) : Hp.set (p :: t) l c = bif p.1 == l then (p.1, c) :: t else p :: Hp.set t l c := rfl
theorem Hp.del_cons (p : Nat × Blk) (t : Hp) (l : Nat) : Hp.del (p :: t) l = bif p.1 == l then Hp.del t l else p :: Hp.del t l := rfl
theorem Hp.get_set (c : Blk) (l : Nat) : ∀ (m : Hp) (b : Blk), Hp.get m l = some b → ∀ k, Hp.get (Hp.set m l c) k = if k = l then some c else Hp.get m k
  | [], _, h => by cases h
  | p :: t, b, h => fun k => by
    rw [Hp.set_cons]
    cases hp : (p.1 == l)
    · rw [Hp.get_cons, hp] at h
      simp only [cond_false] at h ⊢
      rw [Hp.get_cons, Hp.get_cons, Hp.get_set c l t b h k]
      cases hk : (p.1 == k)
      · rfl
      · simp only [cond_true]
        have : k ≠ l := fun e => by subst e; rw [hp] at hk; cases hk
        rw [if_neg this]
    · simp only [cond_true]
      rw [Hp.get_cons, Hp.get_cons]
      have hp' : p.1 = l := by simpa using hp
      cases hk : (p.1 == k)
      · have : k ≠ l := fun e => by subst e; rw [hp] at hk; cases hk
        rw [if_neg this]
        rfl
      · have : k = l := by have : p.1 = k := by simpa using hk
                           omega
        rw [if_pos this]
        rfl
theorem Hp.get_del (l : Nat) : ∀ (m : Hp) (k : Nat), Hp.get (Hp.del m l) k = if k = l then none else Hp.get m k
  | [], k => by split <;> rfl
  | p :: t, k => by
    rw [Hp.del_cons]
    cases hp : (p.1 == l)
    · simp only [cond_false]
      rw [Hp.get_cons, Hp.get_cons, Hp.get_del l t k]
      cases hk : (p.1 == k)
      · rfl
      · have : k ≠ l := fun e => by subst e; rw [hp] at hk; cases hk
        simp [this]
    · simp only [cond_true]
      rw [Hp.get_del l t k, Hp.get_cons]
      have hp' : p.1 = l := by simpa using hp
      cases hk : (p.1 == k)
      · rfl
      · have : k = l := by have : p.1 = k := by simpa using hk
                           omega
        rw [if_pos this, if_pos this]

theorem HR.keep {m : Nat → Option Blk} {r : Ren} {B : Nat} {w w' : World} (h : HR m r B w) (hB : B ≤ w.heap.size) (hw : ∀ b, b < w.heap.size → w'.heap[b]? = w.heap[b]?) : HR m r B w' where
  dom := h.dom
  own l b hb ho := by
    obtain ⟨h1, h2, C, T, fz, h3, h4⟩ := h.own l b hb ho
    exact ⟨h1, h2, C, T, fz, by rw [hw _ (Array.getElem?_eq_some_iff.1 h3).1]; exact h3, h4⟩
  ro l b hb ho := by
    obtain ⟨h1, h2⟩ := h.ro l b hb ho
    refine ⟨h1, fun i x hx => ?_⟩
    obtain ⟨u, hu, hv⟩ := h2 i x hx
    have e : w'.cell? (r.at l i) = w.cell? (r.at l i) := World.cell?_of_block (hw _ (by show r.blk l < _; omega))
    exact ⟨u, by rw [e]; exact hu, hv⟩
  inj := h.inj
  nb := h.nb
  z b hb := (hw b (by have := h.nb; omega)).trans (h.z b hb)
theorem HR.mono {m : Nat → Option Blk} {r r' : Ren} (hr : r.le r') {B : Nat} {w : World} (h : HR m r B w) : HR m r' B w where
  dom l b hb := hr.n l (h.dom l b hb)
  own l b hb ho := by
    obtain ⟨h1, h2, C, T, fz, h3, h4, h5, h6⟩ := h.own l b hb ho
    have hl := h.dom l b hb
    rw [hr.blk l hl, hr.off l hl, hr.cap l hl]
    exact ⟨h1, h2, C, T, fz, h3, h4, h5, fun i x hx => by obtain ⟨u, hu, hv⟩ := h6 i x hx; exact ⟨u, hu, VS.mono hr hv⟩⟩
  ro l b hb ho := by
    obtain ⟨h1, h2⟩ := h.ro l b hb ho
    have hl := h.dom l b hb
    rw [hr.blk l hl]
    refine ⟨h1, fun i x hx => ?_⟩
    rw [hr.at hl]
    obtain ⟨u, hu, hv⟩ := h2 i x hx
    exact ⟨u, hu, VS.mono hr hv⟩
  inj l b l' b' h1 h2 h3 h4 e := by
    rw [hr.blk l (h.dom l b h1), hr.blk l' (h.dom l' b' h3)] at e
    exact h.inj l b l' b' h1 h2 h3 h4 e
  nb := h.nb
  z := h.z
/-- fewer blocks -/
theorem HR.sub {m m' : Nat → Option Blk} {r : Ren} {B : Nat} {w : World} (h : HR m r B w) (hs : ∀ l b, m' l = some b → m l = some b) : HR m' r B w :=
  ⟨fun l b hb => h.dom l b (hs l b hb), fun l b hb => h.own l b (hs l b hb), fun l b hb => h.ro l b (hs l b hb), fun l b l' b' h1 h2 h3 h4 => h.inj l b l' b' (hs l b h1) h2 (hs l' b' h3) h4, h.nb, h.z⟩

def Ren.new (r : Ren) (n blk cap : Nat) : Ren := ⟨fun l => r.ok l ∨ l = n, fun l => if l = n then blk else r.blk l, fun l => if l = n then 0 else r.off l, fun l => if l = n then cap else r.cap l⟩
theorem Ren.le_new (r : Ren) (n blk cap : Nat) (hn : ¬ r.ok n) : r.le (r.new n blk cap) :=
  have h : ∀ l, r.ok l → l ≠ n := fun _ hl e => hn (e ▸ hl)
  ⟨fun _ hl => .inl hl, fun l hl => if_neg (h l hl), fun l hl => if_neg (h l hl), fun l hl => if_neg (h l hl)⟩
theorem Ren.new_at (r : Ren) (n blk cap o : Nat) : (r.new n blk cap).at n o = ⟨blk, o, none⟩ := by simp [Ren.at, Ren.new]
theorem Inv.not (h : Heap) {r : Ren} {B : Nat} {w : World} (hi : Inv h r B w) : ¬ r.ok h.next := fun h' => Nat.lt_irrefl _ (hi.n _ h')
theorem Heap.get_alloc (h : Heap) (cs : List S) (l : Nat) : (h.alloc cs).get l = if l = h.next then some ⟨cs, true⟩ else h.get l := by
  show Hp.get ((h.next, _) :: h.m) l = _
  rw [Hp.get_cons]
  cases hk : ((h.next, (⟨cs, true⟩ : Blk)).1 == l)
  · have : l ≠ h.next := fun e => by subst e; simp at hk
    rw [if_neg this]; rfl
  · have : l = h.next := by simp at hk; exact hk.symm
    rw [if_pos this]; rfl

/-- a new block -/
theorem Inv.new {h : Heap} {r : Ren} {B : Nat} {w w1 : World} (hi : Inv h r B w) {cs : List S} {C : Array Value} {T : TypeId} {fz : Nat × Nat}
    (ho : w1.os = w.os) (ht : w1.tape = w.tape) (hout : w1.output = w.output) (hsz : w1.heap.size = w.heap.size + 1) (hold : ∀ b, b < w.heap.size → w1.heap[b]? = w.heap[b]?)
    (hnew : w1.heap[w.heap.size]? = some (.cells C T fz)) (hfz : ∀ i, i ≤ C.size → (fz.1 ≤ i && i < fz.2) = false)
    (hcs : ∀ i x, nth cs i = some x → ∃ u, C[i]? = some u ∧ VS r x u) (fl : Nat) :
    Inv (h.alloc cs) (r.new h.next w.heap.size C.size) B w1 ∧ Adv fl h r w (h.alloc cs) (r.new h.next w.heap.size C.size) w1 := by
  have hle := r.le_new h.next w.heap.size C.size (Inv.not h hi)
  have hk := (hi.hr.keep hi.b hold).mono hle
  have hb : (r.new h.next w.heap.size C.size).blk h.next = w.heap.size := by simp [Ren.new]
  have hlt : ∀ l b, h.get l = some b → b.own = true → (r.new h.next w.heap.size C.size).blk l < w.heap.size := fun l b hb ho => by
    obtain ⟨_, _, C', T', fz', h3, _⟩ := hi.hr.own l b hb ho
    rw [hle.blk l (hi.hr.dom l b hb)]
    exact (Array.getElem?_eq_some_iff.1 h3).1
  refine ⟨⟨fun l hl => ?_, by have := hi.b; omega, ?_⟩, ?_⟩
  · show l < h.next + 1
    rcases hl with hl | hl
    · have := hi.n l hl; omega
    · omega
  · refine ⟨fun l b hb => ?_, fun l b hb ho => ?_, fun l b hb ho => ?_, fun l b l' b' h1 o1 h2 o2 e => ?_, hk.nb, hk.z⟩
    · rw [Heap.get_alloc] at hb
      split at hb
      · rename_i e; exact .inr e
      · exact .inl (hi.hr.dom l b hb)
    · rw [Heap.get_alloc] at hb
      split at hb
      · rename_i e; subst e
        cases hb
        refine ⟨by rw [‹(r.new h.next w.heap.size C.size).blk h.next = w.heap.size›]; exact hi.b, by simp [Ren.new], C, T, fz, by rw [‹(r.new h.next w.heap.size C.size).blk h.next = w.heap.size›]; exact hnew, by simp [Ren.new], hfz, fun i x hx => ?_⟩
        obtain ⟨u, hu, hv⟩ := hcs i x hx
        exact ⟨u, hu, VS.mono hle hv⟩
      · exact hk.own l b hb ho
    · rw [Heap.get_alloc] at hb
      split at hb
      · cases hb; cases ho
      · exact hk.ro l b hb ho
    · rw [Heap.get_alloc] at h1 h2
      split at h1 <;> split at h2
      · omega
      · rename_i e1 e2
        have := hlt l' b' h2 o2
        rw [← e, e1, hb] at this
        omega
      · rename_i e1 e2
        have := hlt l b h1 o1
        rw [e, e2, hb] at this
        omega
      · exact hk.inj l b l' b' h1 o1 h2 o2 e
  · refine ⟨hle, Nat.le_succ _, fun l hl => ?_, ho, ht, hout, by omega, fun b hb _ => hold b hb, fun l hl _ => ?_, fun l b' hl hb => ?_, fun l b' hl hb' => ?_⟩
    · rcases hl with hl | hl
      · exact .inl hl
      · exact .inr (Nat.le_of_eq hl.symm)
    · rw [Heap.get_alloc, if_neg (by omega)]
    · rw [Heap.get_alloc, if_neg (by omega)] at hb
      exact ⟨b', hb, rfl⟩
    · rw [Heap.get_alloc] at hb'
      split at hb'
      · rename_i e
        cases hb'
        exact ⟨rfl, .inl (by rw [e, hb]; exact Nat.le_refl _)⟩
      · have := hi.n l (hi.hr.dom l b' hb'); omega

/-- what a step comes to -/
def Post (B fl : Nat) (h : Heap) (r : Ren) (w : World) (v : V) (h' : Heap) (u : Value) (w' : World) : Prop :=
  ∃ r', Inv h' r' B w' ∧ VV r' v u ∧ Adv fl h r w h' r' w'
theorem Post.same {B fl : Nat} {h : Heap} {r : Ren} {w : World} {v : V} {u : Value} (hi : Inv h r B w) (hv : VV r v u) : Post B fl h r w v h u w := ⟨r, hi, hv, Adv.refl fl hi⟩

section
variable {P : Program} {ty : Tys} {h : Heap} {r : Ren} {B fl : Nat} {w : World}

theorem read_ok (hi : Inv h r B w) {l o n : Nat} {cs : List S} (hr : h.read l o n = some cs) : ∃ us : List Value, All2 (VS r) cs us ∧ us.length = n ∧ ∀ j u, us[j]? = some u → w.cell? (r.at l (o + j)) = some u := by
  obtain ⟨b, hb, he⟩ := ob_some hr
  obtain ⟨hlen, rfl⟩ := ext_eq he
  have key : ∀ (l' : List S) (p : Nat), (∀ j x, l'[j]? = some x → nth b.cells (p + j) = some x) → ∃ us : List Value, All2 (VS r) l' us ∧ us.length = l'.length ∧ ∀ j u, us[j]? = some u → w.cell? (r.at l (p + j)) = some u := by
    intro l'
    induction l' with
    | nil => exact fun p _ => ⟨[], trivial, rfl, fun j u hu => by simp at hu⟩
    | cons x l' ih =>
      intro p hp
      obtain ⟨us, h1, h2, h3⟩ := ih (p + 1) (fun j y hy => by have := hp (j + 1) y (by simpa using hy); rwa [show p + (j + 1) = p + 1 + j by omega] at this)
      obtain ⟨u, hu, hv⟩ := hi.hr.cell hb (hp 0 x rfl)
      refine ⟨u :: us, ⟨hv, h1⟩, by simp [h2], fun j v hj => ?_⟩
      cases j with
      | zero => cases hj; exact hu
      | succ j => have := h3 j v (by simpa using hj); rwa [show p + 1 + j = p + (j + 1) by omega] at this
  obtain ⟨us, h1, h2, h3⟩ := key ((b.cells.drop o).take n) o (fun j x hx => by
    rw [nth_eq]
    rw [List.getElem?_take] at hx
    split at hx
    · simpa [List.getElem?_drop] using hx
    · cases hx)
  refine ⟨us, h1, ?_, h3⟩
  rw [h2, List.length_take, List.length_drop]
  omega
theorem load_cells (hi : Inv h r B w) {l o n : Nat} {cs : List S} (hr : h.read l o n = some cs) : ∃ us : List Value, All2 (VS r) cs us ∧ us.length = n ∧ ∀ W : World, (∀ a, W.cell? a = w.cell? a) → (loadCells (r.at l o) n).run P W = .ok us.toArray W := by
  obtain ⟨us, h1, h2, h3⟩ := read_ok hi hr
  refine ⟨us, h1, h2, fun W hW => ?_⟩
  rw [← h2]
  exact run_loadCells_list W _ us (fun j v hv => by rw [hW, Addr.add_at]; exact h3 j v hv)
theorem load_ok (hty : TyOk P ty) (hi : Inv h r B w) {t : TypeId} {T : Ty} (hT : ty t = some T) {l o : Nat} {cs : List S} (hr : h.read l o T.size = some cs) {x : A} (hm : T.mk' cs = some x) :
    ∃ z, (Instr.loadAt t (.pointer (some (r.at l o)))).run P w = .ok z w ∧ VA r x z := by
  obtain ⟨i, d, z, hi', hd, hz, h1, h2, _⟩ := hty t T hT
  have hsz : (sizeOf t).run P w = .ok T.size w := size_run hty hT
  have ha : (isAgg t).run P w = .ok T.d.agg w := by
    rw [h1]; unfold isAgg; cases d <;> simp [run_underlying hd, dOf, D.agg]
  unfold Ty.mk' at hm
  cases hg : T.d.agg <;> simp only [hg, cond_true, cond_false] at hm
  · obtain ⟨us, g1, g2, g3⟩ := read_ok hi hr
    split at hm <;> cases hm
    rename_i y
    cases us with
    | nil => exact g1.elim
    | cons u us =>
      have hc := g3 0 u rfl
      simp only [Nat.add_zero] at hc
      exact ⟨u, by simp [Instr.loadAt, Instr.sureAddr, loadVar, ha, hg, hc], g1.1⟩
  · cases hm
    obtain ⟨us, g1, g2, g3⟩ := load_cells (P := P) hi hr
    exact ⟨.agg us.toArray, by simp [Instr.loadAt, Instr.sureAddr, loadVar, ha, hg, hsz, g3 w (fun _ => rfl)], us, rfl, g1⟩

theorem all2_nth {r : Ren} {cs : List S} {C : Array Value} (h : All2 (VS r) cs C.toList) : ∀ i x, nth cs i = some x → ∃ u, C[i]? = some u ∧ VS r x u := fun i x hx => by
  obtain ⟨u, hu, hv⟩ := All2.nth h hx
  exact ⟨u, by simpa using hu, hv⟩
theorem all2_nth_app {r : Ren} {cs : List S} {us : List Value} (h : All2 (VS r) cs us) (Z : Array Value) : ∀ i x, nth cs i = some x → ∃ u, (us.toArray ++ Z)[i]? = some u ∧ VS r x u := fun i x hx => by
  obtain ⟨u, hu, hv⟩ := All2.nth h hx
  have hlt : i < us.length := (List.getElem?_eq_some_iff.1 hu).1
  exact ⟨u, by rw [Array.getElem?_append_left (by simpa using hlt)]; simpa using hu, hv⟩
/-- a new row, laid -/
theorem new_row (hi : Inv h r B w) {cs : List S} {C : Array Value} (hcs : ∀ i x, nth cs i = some x → ∃ u, C[i]? = some u ∧ VS r x u) (e : TypeId) (fl : Nat) :
    Inv (h.alloc cs) (r.new h.next w.heap.size C.size) B (w.alloc (.cells C e)) ∧ Adv fl h r w (h.alloc cs) (r.new h.next w.heap.size C.size) (w.alloc (.cells C e)) :=
  hi.new (w1 := w.alloc (.cells C e)) (fz := (0, 0)) rfl rfl rfl (by simp) (fun b hb => heap_alloc_old w _ hb) (heap_alloc_new w _) (fun i _ => by simp) hcs fl
theorem new_row_drew (hi : Inv h r B w) {cs : List S} {C : Array Value} (hcs : ∀ i x, nth cs i = some x → ∃ u, C[i]? = some u ∧ VS r x u) (e : TypeId) (fl : Nat) :
    Inv (h.alloc cs) (r.new h.next w.heap.size C.size) B (w.drew.alloc (.cells C e)) ∧ Adv fl h r w (h.alloc cs) (r.new h.next w.heap.size C.size) (w.drew.alloc (.cells C e)) :=
  hi.new (w1 := w.drew.alloc (.cells C e)) (fz := (0, 0)) rfl rfl rfl (by simp) (fun b hb => heap_alloc_old w.drew _ hb) (heap_alloc_new w.drew _) (fun i _ => by simp) hcs fl

theorem rep_succ {α : Type} (n : Nat) (l : List α) : rep (n + 1) l = l ++ rep n l := rfl
theorem rep_comm {α : Type} (l : List α) : ∀ n, rep n l ++ l = l ++ rep n l
  | 0 => by show [] ++ l = l ++ []; simp
  | n + 1 => by rw [rep_succ, List.append_assoc, rep_comm l n]
theorem zeros_rep {α : Type} [Inhabited α] (Z : Array α) (hz : 0 < Z.size) : ∀ n, (List.range (n * Z.size)).map (fun i => Z[i % Z.size]!) = rep n Z.toList
  | 0 => by simp; rfl
  | n + 1 => by
    rw [Nat.succ_mul, List.range_add, List.map_append, zeros_rep Z hz n, rep_succ, ← rep_comm]
    congr 1
    rw [List.map_map]
    apply List.ext_getElem
    · simp
    · intro i h1 h2
      simp at h1
      simp [Nat.mod_eq_of_lt h1, h1]
theorem all2_rep {α β : Type} {R : α → β → Prop} {xs : List α} {ys : List β} (h : All2 R xs ys) : ∀ n, All2 R (rep n xs) (rep n ys)
  | 0 => trivial
  | n + 1 => by rw [rep_succ, rep_succ]; exact h.app (all2_rep h n)
theorem rep_length {α : Type} (l : List α) : ∀ n, (rep n l).length = n * l.length
  | 0 => by simp; rfl
  | n + 1 => by rw [rep_succ, List.length_append, rep_length l n, Nat.succ_mul]; omega

theorem okE_some {E : Ty} (h : okE E = true) : E.bytes ≤ 65536 ∧ 0 < E.size ∧ E.zero.length = E.size := by
  unfold okE at h
  simp only [Bool.and_eq_true, Bool.not_eq_true', beq_eq_false_iff_ne, ne_eq, beq_iff_eq] at h
  exact ⟨Nat.le_of_ble_eq_true h.1.1, Nat.pos_of_ne_zero h.1.2, h.2⟩
theorem alloc_run (hty : TyOk P ty) {t : TypeId} {T : Ty} (hT : ty t = some T) : ∃ z : Value, (∀ r, All2 (VS r) T.zero z.cells.toList) ∧ (Instr.alloc t true (.tuple #[])).run P w = .ok (.pointer (some ⟨w.heap.size, 0, none⟩)) (w.alloc (.cells z.cells t)) := by
  obtain ⟨i, d, z, hi, hd, hz, h1, h2, h3, h4, h5⟩ := hty t T hT
  exact ⟨z, h5, by simp [Instr.alloc, zeroValue, typeInfo, hi, hz, newVar, newRow]⟩
theorem ptr_new (r : Ren) (n b c : Nat) : VV (r.new n b c) (V.s (.ptr n 0)) (.pointer (some ⟨b, 0, none⟩)) := ⟨.inr rfl, by rw [Ren.new_at]⟩
theorem sl_new (r : Ren) (l b c n z q : Nat) (hz : 0 < z) (hn : n ≤ q) : VV (r.new l b c) (V.s (.sl l 0 n z (some q))) (.slice (some ⟨b, 0, none⟩) n q) := ⟨.inr rfl, hz, hn, by rw [Ren.new_at]⟩
theorem sl_new' (r : Ren) (l b n z q : Nat) (hz : 0 < z) (hn : n ≤ q) (hq : q ≤ maxLen) : VV (r.new l b (q * z)) (V.s (.sl l 0 n z none)) (.slice (some ⟨b, 0, none⟩) n q) := by
  have e : ((r.new l b (q * z)).cap l - 0) / z = q := by simp [Ren.new, Nat.mul_div_cancel _ hz]
  exact ⟨.inr rfl, ⟨hz, by rw [e]; exact hq⟩, by rw [e]; exact hn, by rw [e, Ren.new_at]⟩

theorem buildSlice_ok (hty : TyOk P ty) (hi : Inv h r B w) {t : TypeId} {E : Ty} (hE : elemOf ty t = some E) {len : Nat} {ps : List (Nat × A)} {qs : List (Nat × Value)} (hp : All2 (fun p q => p.1 = q.1 ∧ VA r p.2 q.2) ps qs)
    (hok : okE E = true) (hlen : len * E.size ≤ 65536) {cs : List S} (hf : fill (fun i => some (i * E.size, E.size)) ps (rep len E.zero) = some cs) (fl : Nat) :
    ∃ u w', (Instr.buildSlice t len qs.toArray).run P w = .ok u w' ∧ Post B fl h r w (V.s (.sl h.next 0 len E.size (some len))) (h.alloc cs) u w' := by
  obtain ⟨e, hd, hE'⟩ := elemOf_ok hty hE
  obtain ⟨i, d, z, hi', hd', hz, h1, h2, h3, h4, h5⟩ := hty e E hE'
  obtain ⟨hb, hs, hzl⟩ := okE_some hok
  have hzs : z.cells.size = E.size := by have := (h5 r).len; simp at this; omega
  have hsz := size_run (w := w) hty hE'
  have hzr : (zeroValue e).run P w = .ok z w := by simp [zeroValue, typeInfo, hi', hz]
  have hc0 : All2 (VS r) (rep len E.zero) ((Array.range (len * E.size)).map (fun j => z.cells[j % z.cells.size]!)).toList := by
    have := zeros_rep z.cells (by omega) len
    rw [hzs] at this
    simp only [Array.toList_map, Array.toList_range, hzs, this]
    exact all2_rep (h5 r) len
  obtain ⟨D, hD1, hD2⟩ := fill_ok (r := r) _ hp hc0 hf
  obtain ⟨g1, g2⟩ := new_row hi (all2_nth hD2) e fl
  refine ⟨.slice (some ⟨w.heap.size, 0, none⟩) len len, w.alloc (.cells D e), ?_, _, g1, ?_, g2⟩
  · have h24 : ¬ (len * E.size > 2 ^ 24) := by omega
    by_cases h0 : len * E.size = 0
    · have e0 : len = 0 := by rcases Nat.mul_eq_zero.1 h0 with h | h <;> omega
      subst e0
      have hz0 : ∀ f : Nat → Value, (Array.range (0 * E.size)).map f = #[] := fun f => by apply Array.ext'; simp
      rw [hz0] at hD1
      simp only [Instr.buildSlice, Sem.run_bind, run_underlying hd, Result.andThen_ok, hsz, if_neg h24, if_pos h0, Sem.run_pure, hz0, hD1]
      simp [newRow]
    · simp only [Instr.buildSlice, Sem.run_bind, run_underlying hd, Result.andThen_ok, hsz, if_neg h24, if_neg h0, hzr, Sem.run_pure, hD1]
      simp [newRow]
  · exact sl_new r _ _ _ _ _ _ hs (Nat.le_refl _)
theorem makeSlice_ok (hty : TyOk P ty) (hi : Inv h r B w) {t : TypeId} {E : Ty} (hE : elemOf ty t = some E) {n c : Nat} (hok : okE E = true) (hnc : n ≤ c) (hc : c ≤ 65536) (kl kc : IntKind) (fl : Nat) :
    ∃ u w', (Instr.makeSlice t (.int kl n) (.int kc c)).run P w = .ok u w' ∧ Post B fl h r w (V.s (.sl h.next 0 n E.size (some c))) (h.alloc (rep c E.zero)) u w' := by
  obtain ⟨e, hd, hE'⟩ := elemOf_ok hty hE
  obtain ⟨i, d, z, hi', hd', hz, h1, h2, h3, h4, h5⟩ := hty e E hE'
  obtain ⟨hb, hs, hzl⟩ := okE_some hok
  have hzs : z.cells.size = E.size := by have := (h5 r).len; simp at this; omega
  have hmul : i.bytes * c ≤ 65536 * 65536 := Nat.mul_le_mul (by omega) hc
  have hm : (i.bytes : Int) * (c : Int) ≤ 281474976710656 := by
    have : ((i.bytes * c : Nat) : Int) ≤ 281474976710656 := by omega
    rwa [Int.natCast_mul] at this
  have hr := run_make (P := P) w t e i z hd hi' hz kl kc n c (by omega) (by omega) hm (by omega)
  have hc0 : All2 (VS r) (rep c E.zero) (madeCells z.cells (c * i.size)).toList := by
    have := zeros_rep z.cells (by omega) c
    rw [hzs] at this
    unfold madeCells
    rw [← h2]
    simp only [Array.toList_map, Array.toList_range, hzs, this]
    exact all2_rep (h5 r) c
  obtain ⟨g1, g2⟩ := new_row hi (all2_nth hc0) e fl
  refine ⟨_, _, by simpa using hr, _, g1, ?_, g2⟩
  exact sl_new r _ _ _ _ _ _ hs hnc

theorem u8T_ok (hty : TyOk P ty) {t : TypeId} (h : u8T ty t = true) : ∃ e, P.underlying t = some (.slice e) ∧ P.underlying e = some (.int .u8) := by
  unfold u8T at h
  cases hE : elemOf ty t with
  | none => rw [hE] at h; cases h
  | some E =>
    rw [hE] at h
    simp only at h
    obtain ⟨e, hd, hE'⟩ := elemOf_ok hty hE
    obtain ⟨i, d, z, hi', hd', hz, h1, _⟩ := hty e E hE'
    split at h
    · rename_i hD
      rw [hD] at h1
      exact ⟨e, hd, hd'.trans (by rw [dOf_int h1.symm])⟩
    · cases h
theorem u8S_all {r : Ren} : ∀ {cs : List S} {bs : List UInt8} {us : List Value}, mapO u8S cs = some bs → All2 (VS r) cs us → ∃ ns : List Int, us = ns.map (Value.int .u8) ∧ bs = ns.map fun n => UInt8.ofNat n.toNat
  | [], bs, [], h, _ => by cases h; exact ⟨[], rfl, rfl⟩
  | [], _, _ :: _, _, h => h.elim
  | _ :: _, _, [], _, h => h.elim
  | c :: cs, bs, u :: us, h, k => by
    rw [mapO_cons] at h
    obtain ⟨b, hb, h⟩ := ob_some h
    obtain ⟨bs', hbs, h⟩ := ob_some h
    cases h
    obtain ⟨ns, rfl, rfl⟩ := u8S_all hbs k.2
    unfold u8S at hb
    split at hb <;> cases hb
    have e := k.1
    cases e
    exact ⟨_ :: ns, rfl, rfl⟩
theorem push_all : ∀ (ns : List Int) (b : ByteArray), ns.foldl (fun r n => r.push (UInt8.ofNat n.toNat)) b = ⟨(b.data.toList ++ ns.map fun n => UInt8.ofNat n.toNat).toArray⟩
  | [], b => by simp
  | n :: ns, b => by
    rw [List.foldl_cons, push_all ns]
    congr 1
    apply Array.ext'
    simp [ByteArray.push]
theorem strOf_ok (hty : TyOk P ty) (hi : Inv h r B w) {src dst : TypeId} (hs : u8T ty src = true) (hd : isStrT ty dst = true) {x : S} {u : Value} (hu : VS r x u) {v : V} {h' : Heap} (hh : strOf h x = some (v, h')) :
    h' = h ∧ ∃ z, (convert src dst u).run P w = .ok z w ∧ VV r v z := by
  obtain ⟨e, h1, h2⟩ := u8T_ok hty hs
  have h3 := isStrT_ok hty hd
  unfold strOf at hh
  split at hh
  · cases hh
    cases hu
    exact ⟨rfl, _, run_convert_bytes_nil w src e h1 h2 0 0 dst h3, rfl⟩
  · cases hh
    obtain ⟨a, c, rfl⟩ := hu
    refine ⟨rfl, .string ByteArray.empty, ?_, rfl⟩
    rw [run_convert_bytes_string w src dst e _ 0 c h1 h2 h3, run_bytesToString w a 0 c [] (by simp [loadCells, loadCellsFrom, Sem.run_pure])]
    rfl
  · rename_i l o n z c
    cases hz : (z == 1) <;> rw [hz] at hh <;> simp only [cond_true, cond_false] at hh
    · cases hh
    obtain ⟨cs, hcs, hh⟩ := ob_some hh
    obtain ⟨bs, hbs, hh⟩ := ob_some hh
    cases hh
    obtain ⟨us, g1, g2, g3⟩ := load_cells (P := P) hi hcs
    obtain ⟨ns, rfl, rfl⟩ := u8S_all hbs g1
    have : ∃ cc, u = .slice (some (r.at l o)) n cc := by
      cases c with
      | none => exact ⟨_, hu.2.2.2⟩
      | some c => exact ⟨_, hu.2.2.2⟩
    obtain ⟨cc, rfl⟩ := this
    refine ⟨rfl, _, by rw [run_convert_bytes_string w src dst e _ n cc h1 h2 h3, run_bytesToString w _ n cc ns (by have := g3 w (fun _ => rfl); simpa using this)], ?_⟩
    show Value.string _ = Value.string _
    rw [push_all]
    simp
  · cases hh
set_option linter.unusedVariables false in
theorem bytesOf_ok (hty : TyOk P ty) (hi : Inv h r B w) {src dst : TypeId} (hs : isStrT ty src = true) (hd : u8T ty dst = true) {x : S} {u : Value} (hu : VS r x u) {v : V} {h' : Heap} (hh : bytesOf h x = some (v, h')) (fl : Nat) :
    ∃ z w', (convert src dst u).run P w = .ok z w' ∧ Post B fl h r w v h' z w' := by
  cases hh

theorem isSeq_ok (hty : TyOk P ty) {t : TypeId} (h : isSeq ty t = true) : ∃ d, P.underlying t = some d ∧ (d = .string ∨ ∃ e, d = .slice e) := by
  unfold isSeq at h
  cases hT : ty t with
  | none => rw [hT] at h; cases h
  | some T =>
    rw [hT] at h
    simp only at h
    obtain ⟨i, d, z, hi, hd, hz, h1, _⟩ := hty t T hT
    refine ⟨d, hd, ?_⟩
    cases d <;> first | exact .inl rfl | exact .inr ⟨_, rfl⟩ | (simp [h1, dOf] at h)
/-- what is appended -/
structure Src (P : Program) (w : World) (size k : Nat) (u : Value) (us : List Value) : Prop where
  len : ∀ W, (Builtin.lenOf u).run P W = .ok k W
  cells : ∀ W : World, (∀ a, W.cell? a = w.cell? a) → (Builtin.firstCells size k u).run P W = .ok us.toArray W
theorem sl_val {l o n z : Nat} {c : Option Nat} {u : Value} (h : VS r (.sl l o n z c) u) : ∃ cc, u = .slice (some (r.at l o)) n cc ∧ r.ok l ∧ 0 < z ∧ n ≤ cc ∧ ((c = some cc) ∨ (c = none ∧ cc = (r.cap l - o) / z)) := by
  cases c with
  | none => exact ⟨_, h.2.2.2, h.1, h.2.1.1, h.2.2.1, .inr ⟨rfl, rfl⟩⟩
  | some c => exact ⟨_, h.2.2.2, h.1, h.2.1, h.2.2.1, .inl rfl⟩
theorem src_ok (hi : Inv h r B w) {x : S} {u : Value} (hu : VS r x u) {k : Nat} {cs : List S} (hs : srcCells h x = some (k, cs)) {size : Nat} (hl : cs.length = k * size) :
    ∃ us : List Value, All2 (VS r) cs us ∧ Src P w size k u us := by
  unfold srcCells at hs
  split at hs
  · rename_i l o n z c
    obtain ⟨cs', hcs, hs⟩ := ob_some hs
    simp only [Option.some.injEq, Prod.mk.injEq] at hs
    obtain ⟨rfl, rfl⟩ := hs
    obtain ⟨us, g1, g2, g3⟩ := load_cells (P := P) hi hcs
    obtain ⟨cc, rfl, _⟩ := sl_val hu
    have := g1.len
    refine ⟨us, g1, fun W => rfl, fun W hW => ?_⟩
    have e : n * z = n * size := by omega
    rw [e] at g3
    exact g3 W hW
  · cases hs
    obtain ⟨a, c, rfl⟩ := hu
    exact ⟨[], trivial, fun W => rfl, fun W _ => by simp [Builtin.firstCells, loadCells, loadCellsFrom]⟩
  · cases hs
    cases hu
    exact ⟨[], trivial, fun W => rfl, fun W _ => rfl⟩
  · rename_i s
    cases hs
    cases hu
    refine ⟨s.map fun b => .int .u8 b.toNat, ?_, fun W => by simp [Builtin.lenOf, ba_size], fun W _ => ?_⟩
    · clear hl
      induction s with
      | nil => trivial
      | cons b s ih => exact ⟨rfl, ih⟩
    · simp only [Builtin.firstCells, Sem.run_pure]
      congr 1
      apply Array.ext'
      simp [List.take_of_length_le]
  · cases hs

section
variable {t t2 e o : TypeId} {d2 : TypeDesc} {i : TypeInfo} {z : Value} (ht : P.underlying t = some (.slice e)) (ht2 : P.underlying t2 = some d2) (hd2 : d2 = .string ∨ ∃ e, d2 = .slice e) (hie : P.toTables.info? e = some i) (hz : i.zero = some z)
include ht ht2 hd2 hie
theorem app_in {n c k : Nat} {a : Addr} {u : Value} {us : List Value} (hs : Src P w i.size k u us) (hfit : n + k ≤ c) :
    (Builtin.append_ #[t, t2] o #[.slice (some a) n c, u]).run P w = ((storeCells (a.add (n * i.size)) us).run P w).andThen fun _ w' => .ok (.slice (some a) (n + k) c) w' := by
  have h1 := hs.len w
  have h2 := hs.cells w (fun _ => rfl)
  rcases hd2 with rfl | ⟨e', rfl⟩ <;> simp [Builtin.append_, run_underlying ht, run_underlying ht2, sizeOf, typeInfo, hie, h1, hfit, h2]
theorem app_nil0 {u : Value} {us : List Value} (hs : Src P w i.size 0 u us) : (Builtin.append_ #[t, t2] o #[.slice none 0 0, u]).run P w = .ok (.slice none 0 0) w := by
  have h1 := hs.len w
  have h2 := hs.cells w (fun _ => rfl)
  rcases hd2 with rfl | ⟨e', rfl⟩ <;> simp [Builtin.append_, run_underlying ht, run_underlying ht2, sizeOf, typeInfo, hie, h1, h2]
include hz
theorem app_grow {n c k : Nat} {a : Option Addr} {u : Value} {us olds : List Value} (hs : Src P w i.size k u us) (hgrow : c < n + k) (hn : n ≤ 65536) (hk : k ≤ 65536) (hb : i.bytes ≤ 65536)
    (hold : (Builtin.firstCells i.size n (.slice a n c)).run P w.drew = .ok olds.toArray w.drew) :
    (Builtin.append_ #[t, t2] o #[.slice a n c, u]).run P w = .ok (.slice (some ⟨w.heap.size, 0, none⟩) (n + k) (grownCap w (n + k) c e))
      (w.drew.alloc (.cells (olds.toArray ++ us.toArray ++ Builtin.zeroCells z.cells (grownCap w (n + k) c e - (n + k))) e)) := by
  have h1 := hs.len w
  have h2 := hs.cells w.drew (fun _ => rfl)
  have hnf : ¬ (n + k ≤ c) := by omega
  have hmul : (n + k) * i.bytes ≤ 131072 * 65536 := Nat.mul_le_mul (by omega) hb
  have hfit := growslice_fits (bytes := i.bytes) hgrow (by omega)
  have h48 : ¬ (281474976710656 < Builtin.nextslicecap (n + k) c * i.bytes) := by omega
  have h63 : ¬ (9223372036854775807 < ((n : Int) + (k : Int))) := by omega
  rcases hd2 with rfl | ⟨e', rfl⟩ <;>
    simp [Builtin.append_, run_underlying ht, run_underlying ht2, sizeOf, typeInfo, hie, h1, hnf, h48, h63, h2, hold, Question.forced, newRow, zeroValue, hz, grownCap] <;>
    (congr 2; apply Array.ext'; simp [List.append_assoc])
end

theorem setCell_at {b o : Nat} {v : Value} {C : Array Value} {T : TypeId} {fz : Nat × Nat} (hb : w.heap[b]? = some (.cells C T fz)) :
    (w.setCell ⟨b, o, none⟩ v).heap[b]? = some (.cells (C.setIfInBounds o v) T fz) := by
  simp [World.setCell, Array.getElem?_modify, hb]
theorem setCell_off {b o k : Nat} {v : Value} (hk : k ≠ b) : (w.setCell ⟨b, o, none⟩ v).heap[k]? = w.heap[k]? := by
  simp [World.setCell, Array.getElem?_modify, Ne.symm hk]
theorem setCells_at {b : Nat} {T : TypeId} {fz : Nat × Nat} : ∀ (vs : List Value) (o : Nat) (C : Array Value) (w : World), w.heap[b]? = some (.cells C T fz) → o + vs.length ≤ C.size →
    ∃ D : Array Value, (w.setCells b o vs).heap[b]? = some (.cells D T fz) ∧ D.toList = C.toList.take o ++ (vs ++ C.toList.drop (o + vs.length)) ∧ (∀ k, k ≠ b → (w.setCells b o vs).heap[k]? = w.heap[k]?) ∧
      (w.setCells b o vs).os = w.os ∧ (w.setCells b o vs).tape = w.tape ∧ (w.setCells b o vs).output = w.output ∧ (w.setCells b o vs).heap.size = w.heap.size
  | [], o, C, w, hb, _ => ⟨C, hb, by simp, fun _ _ => rfl, rfl, rfl, rfl, rfl⟩
  | v :: vs, o, C, w, hb, hl => by
    simp only [List.length_cons] at hl
    obtain ⟨D, h1, h2, h3, h4, h5, h6, h7⟩ := setCells_at vs (o + 1) (C.setIfInBounds o v) (w.setCell ⟨b, o, none⟩ v) (setCell_at hb) (by simp; omega)
    refine ⟨D, h1, ?_, fun k hk => (h3 k hk).trans (setCell_off hk), h4, h5, h6, h7.trans (by simp [World.setCell])⟩
    rw [h2]
    simp only [Array.toList_setIfInBounds]
    have e1 : (C.toList.set o v).take (o + 1) = C.toList.take o ++ [v] := by
      rw [List.take_succ_eq_append_getElem (by simp; omega)]
      simp [List.take_set_of_le]
    have e2 : (C.toList.set o v).drop (o + 1 + vs.length) = C.toList.drop (o + (vs.length + 1)) := by
      rw [List.drop_set_of_lt (by omega)]
      congr 1
      omega
    rw [e1, e2]
    simp

/-- a block that is written -/
theorem Inv.write (hi : Inv h r B w) {l : Nat} {b : Blk} (hb : h.get l = some b) (ho : b.own = true) (hfl : fl ≤ l) {w1 : World} {C : Array Value} {T : TypeId} {fz : Nat × Nat} {cs : List S}
    (h1 : w1.os = w.os) (h2 : w1.tape = w.tape) (h3 : w1.output = w.output) (h4 : w1.heap.size = w.heap.size) (h5 : ∀ k, k ≠ r.blk l → w1.heap[k]? = w.heap[k]?)
    (h6 : w1.heap[r.blk l]? = some (.cells C T fz)) (h7 : C.size = r.cap l) (h8 : ∀ i, i ≤ C.size → (fz.1 ≤ i && i < fz.2) = false) (h9 : ∀ i x, nth cs i = some x → ∃ u, C[i]? = some u ∧ VS r x u) :
    Inv ⟨Hp.set h.m l ⟨cs, true⟩, h.next⟩ r B w1 ∧ Adv fl h r w ⟨Hp.set h.m l ⟨cs, true⟩, h.next⟩ r w1 := by
  have hget : ∀ k, Heap.get ⟨Hp.set h.m l ⟨cs, true⟩, h.next⟩ k = if k = l then some ⟨cs, true⟩ else h.get k := fun k => Hp.get_set _ _ _ _ hb k
  have hown := hi.hr.own l b hb ho
  refine ⟨⟨hi.n, by rw [h4]; exact hi.b, ?_⟩, ?_⟩
  · refine ⟨fun k c hk => ?_, fun k c hk hc => ?_, fun k c hk hc => ?_, fun k c k' c' g1 o1 g2 o2 e => ?_, hi.hr.nb, fun k hk => (h5 k (by have := hi.hr.nb; have := hown.1; omega)).trans (hi.hr.z k hk)⟩
    · rw [hget] at hk
      split at hk
      · rename_i e; subst e; exact hi.hr.dom k b hb
      · exact hi.hr.dom k c hk
    · rw [hget] at hk
      split at hk
      · rename_i e; subst e; cases hk
        exact ⟨hown.1, hown.2.1, C, T, fz, h6, h7, h8, h9⟩
      · rename_i e
        obtain ⟨g1, g2, C', T', fz', g3, g4⟩ := hi.hr.own k c hk hc
        refine ⟨g1, g2, C', T', fz', ?_, g4⟩
        rw [h5 _ (fun e' => e (hi.hr.inj k c l b hk hc hb ho e'))]
        exact g3
    · rw [hget] at hk
      split at hk
      · cases hk; cases hc
      · obtain ⟨g1, g2⟩ := hi.hr.ro k c hk hc
        refine ⟨g1, fun i x hx => ?_⟩
        obtain ⟨u, hu, hv⟩ := g2 i x hx
        have e : w1.cell? (r.at k i) = w.cell? (r.at k i) := World.cell?_of_block (h5 _ (by show r.blk k ≠ _; have := hown.1; omega))
        exact ⟨u, by rw [e]; exact hu, hv⟩
    · rw [hget] at g1 g2
      have key : ∀ k c, (if k = l then some (⟨cs, true⟩ : Blk) else h.get k) = some c → c.own = true → ∃ c', h.get k = some c' ∧ c'.own = true := fun k c g o => by
        split at g
        · rename_i e; subst e; exact ⟨b, hb, ho⟩
        · exact ⟨c, g, o⟩
      obtain ⟨d, hd, od⟩ := key k c g1 o1
      obtain ⟨d', hd', od'⟩ := key k' c' g2 o2
      exact hi.hr.inj k d k' d' hd od hd' od' e
  · refine ⟨Ren.le.refl r, Nat.le_refl _, fun _ h => .inl h, h1, h2, h3, by omega, fun k _ hno => h5 k (fun e => hno l b hb ho hfl e.symm), fun k _ hkf => ?_, fun k c _ hk => ?_, fun k c hk hc => ?_⟩
    · rw [hget, if_neg (by omega)]
    · rw [hget] at hk
      split at hk
      · rename_i e; subst e; cases hk; exact ⟨b, hb, ho⟩
      · exact ⟨c, hk, rfl⟩
    · rw [hget] at hc
      split at hc
      · rename_i e; subst e
        have := hi.n k (hi.hr.dom k b hb); omega
      · have := hi.n k (hi.hr.dom k c hc); omega

theorem all_one : ∀ {vs : List S} {us : List Value}, All2 (VS r) vs us → ∀ v ∈ us, v.oneCell' = true
  | [], [], _ => fun v hv => by cases hv
  | [], _ :: _, h => h.elim
  | _ :: _, [], h => h.elim
  | _ :: _, _ :: _, h => fun v hv => by
    rcases List.mem_cons.1 hv with rfl | hv
    · exact VS.one h.1
    · exact all_one h.2 v hv
/-- cells laid over a block of the call's own -/
theorem lay_ok (hi : Inv h r B w) {l o : Nat} {b : Blk} (hb : h.get l = some b) (ho : b.own = true) (hfl : fl ≤ l) {vs cs' : List S} {us : List Value} (hu : All2 (VS r) vs us) (hl : lay b.cells o vs = some cs') :
    (storeCells (r.at l o) us).run P w = .ok () (w.setCells (r.blk l) o us) ∧ Inv ⟨Hp.set h.m l ⟨cs', true⟩, h.next⟩ r B (w.setCells (r.blk l) o us) ∧ Adv fl h r w ⟨Hp.set h.m l ⟨cs', true⟩, h.next⟩ r (w.setCells (r.blk l) o us) := by
  obtain ⟨g1, g2, C, T, fz, g3, g4, g5, g6⟩ := hi.hr.own l b hb ho
  obtain ⟨e1, rfl⟩ := lay_eq hl
  have hlen := hu.len
  have hbc : b.cells.length ≤ C.size := by
    rcases Nat.eq_zero_or_pos b.cells.length with h0 | h0
    · omega
    · obtain ⟨u, hu', _⟩ := g6 (b.cells.length - 1) (b.cells[b.cells.length - 1]) (by rw [nth_eq, List.getElem?_eq_getElem])
      have := (Array.getElem?_eq_some_iff.1 hu').1
      omega
  have hone := all_one hu
  rcases e1 with e1 | e1
  · subst e1
    cases us with
    | cons u us => exact hu.elim
    | nil =>
      refine ⟨rfl, ?_⟩
      refine hi.write hb ho hfl rfl rfl rfl rfl (fun _ _ => rfl) g3 g4 g5 (fun i x hx => g6 i x ?_)
      simpa using hx
  · have hfit : o + us.length ≤ C.size := by omega
    obtain ⟨D, d1, d2, d3, d4, d5, d6, d7⟩ := setCells_at us o C w g3 hfit
    have hst := run_storeCells_cells (P := P) (r.blk l) o us 0 w (fun j hj => by
        have : o + j < C.size := by omega
        simp [World.cell?, g3, this]) (fun j hj => by
        have := g5 (o + 0 + j) (by omega)
        simp only [World.frozen?, g3]
        exact this) hone
    have hat : r.at l o = ⟨r.blk l, o, none⟩ := by simp [Ren.at, g2]
    have hDs : D.size = C.size := by
      have := congrArg List.length d2
      simp at this
      omega
    refine ⟨by rw [hat]; simpa using hst, ?_⟩
    refine hi.write hb ho hfl d4 d5 d6 d7 d3 d1 (by rw [hDs, g4]) (by rw [hDs]; exact g5) (fun i x hx => ?_)
    have hi' : i < b.cells.length := by
      rw [nth_eq] at hx
      have := (List.getElem?_eq_some_iff.1 hx).1
      simp at this
      omega
    have hD : ∀ j, D[j]? = (C.toList.take o ++ (us ++ C.toList.drop (o + us.length)))[j]? := fun j => by rw [← d2, Array.getElem?_toList]
    rw [hD]
    rw [nth_eq] at hx
    by_cases c1 : i < o
    · rw [List.getElem?_append_left (by simp; omega), List.getElem?_take_of_lt c1] at hx
      rw [List.getElem?_append_left (by simp; omega), List.getElem?_take_of_lt c1]
      obtain ⟨u, hu1, hu2⟩ := g6 i x (by rw [nth_eq]; exact hx)
      exact ⟨u, by simpa using hu1, hu2⟩
    · rw [List.getElem?_append_right (by simp; omega)] at hx
      rw [List.getElem?_append_right (by simp; omega)]
      have m1 : (b.cells.take o).length = o := by simp; omega
      have m2 : (C.toList.take o).length = o := by simp; omega
      rw [m1] at hx
      rw [m2]
      by_cases c2 : i - o < vs.length
      · rw [List.getElem?_append_left c2] at hx
        rw [List.getElem?_append_left (by omega)]
        exact All2.nth hu (by rw [nth_eq]; exact hx)
      · rw [List.getElem?_append_right (by omega), List.getElem?_drop] at hx
        rw [List.getElem?_append_right (by omega), List.getElem?_drop, ← hlen]
        obtain ⟨u, hu1, hu2⟩ := g6 _ x (by rw [nth_eq]; exact hx)
        exact ⟨u, by simpa using hu1, hu2⟩

/-- a memory of which less is said -/
def Weak (r : Ren) (h1 h2 : Heap) : Prop := h2.next = h1.next ∧ ∀ l b2, h2.get l = some b2 → ∃ b1, h1.get l = some b1 ∧ b1.own = b2.own ∧ ∀ i x2, nth b2.cells i = some x2 → ∃ x1, nth b1.cells i = some x1 ∧ ∀ u, VS r x1 u → VS r x2 u
theorem Weak.inv {r : Ren} {h1 h2 : Heap} {B : Nat} {w : World} (k : Weak r h1 h2) (i : Inv h1 r B w) : Inv h2 r B w where
  n l hl := by rw [k.1]; exact i.n l hl
  b := i.b
  hr := {
    dom := fun l b hb => by obtain ⟨b1, h, _⟩ := k.2 l b hb; exact i.hr.dom l b1 h
    own := fun l b hb ho => by
      obtain ⟨b1, h, e, hc⟩ := k.2 l b hb
      obtain ⟨g1, g2, C, T, fz, g3, g4, g5, g6⟩ := i.hr.own l b1 h (e.trans ho)
      refine ⟨g1, g2, C, T, fz, g3, g4, g5, fun j x hx => ?_⟩
      obtain ⟨x1, hx1, hv⟩ := hc j x hx
      obtain ⟨u, hu, hv'⟩ := g6 j x1 hx1
      exact ⟨u, hu, hv u hv'⟩
    ro := fun l b hb ho => by
      obtain ⟨b1, h, e, hc⟩ := k.2 l b hb
      obtain ⟨g1, g2⟩ := i.hr.ro l b1 h (e.trans ho)
      refine ⟨g1, fun j x hx => ?_⟩
      obtain ⟨x1, hx1, hv⟩ := hc j x hx
      obtain ⟨u, hu, hv'⟩ := g2 j x1 hx1
      exact ⟨u, hu, hv u hv'⟩
    inj := fun l b l' b' hb ho hb' ho' he => by
      obtain ⟨c, h, e, _⟩ := k.2 l b hb
      obtain ⟨c', h', e', _⟩ := k.2 l' b' hb'
      exact i.hr.inj l c l' c' h (e.trans ho) h' (e'.trans ho') he
    nb := i.hr.nb
    z := i.hr.z }
theorem Weak.adv {fl : Nat} {r r' : Ren} {h h1 h2 : Heap} {w w' : World} (k : Weak r' h1 h2) (hk : ∀ l, l < h.next → l < fl → h2.get l = h1.get l) (a : Adv fl h r w h1 r' w') : Adv fl h r w h2 r' w' where
  le := a.le
  nn := by rw [k.1]; exact a.nn
  okn := a.okn
  os := a.os
  tape := a.tape
  output := a.output
  size := a.size
  frame := a.frame
  keep l hl hf := (hk l hl hf).trans (a.keep l hl hf)
  old l b' hl hb := by
    obtain ⟨b1, h1, e, _⟩ := k.2 l b' hb
    obtain ⟨c, hc, e'⟩ := a.old l b1 hl h1
    exact ⟨c, hc, e'.trans e⟩
  fresh l b' hl hb := by
    obtain ⟨b1, h1, e, _⟩ := k.2 l b' hb
    obtain ⟨g1, g2⟩ := a.fresh l b1 hl h1
    exact ⟨e ▸ g1, g2⟩
theorem Adv.low {fl fl' : Nat} {h h' : Heap} {r r' : Ren} {w w' : World} (hle : fl ≤ fl') (a : Adv fl' h r w h' r' w') : Adv fl h r w h' r' w' where
  le := a.le
  nn := a.nn
  okn := a.okn
  os := a.os
  tape := a.tape
  output := a.output
  size := a.size
  frame b hb hno := a.frame b hb fun l k hl ho hfl => hno l k hl ho (Nat.le_trans hle hfl)
  keep l hl hf := a.keep l hl (Nat.lt_of_lt_of_le hf hle)
  old := a.old
  fresh l b' hl hb := by
    obtain ⟨g1, g2⟩ := a.fresh l b' hl hb
    refine ⟨g1, ?_⟩
    rcases g2 with g2 | ⟨l0, b0, k1, k2, k3, k4⟩
    · exact .inl g2
    · exact .inr ⟨l0, b0, k1, k2, Nat.le_trans hle k3, k4⟩
theorem get_filter (g : Nat → Bool) (l : Nat) : ∀ m : Hp, Hp.get (m.filter fun p => g p.1) l = if g l then Hp.get m l else none
  | [] => by simp [Hp.get_nil]
  | p :: m => by
    rw [List.filter_cons, Hp.get_cons]
    cases hp : g p.1
    · simp only [Bool.false_eq_true, if_false]
      rw [get_filter g l m]
      cases e : (p.1 == l)
      · rfl
      · have e' : p.1 = l := by simpa using e
        rw [← e', hp]
        simp
    · simp only [if_true]
      rw [Hp.get_cons, get_filter g l m]
      cases e : (p.1 == l)
      · rfl
      · have e' : p.1 = l := by simpa using e
        rw [← e', hp]
        simp
theorem trim_weak (n : Nat) (rs : List A) (h : Heap) (r : Ren) : Weak r h (trimH n rs h) ∧ ∀ l, l < n → (trimH n rs h).get l = h.get l := by
  have key : ∀ l, (trimH n rs h).get l = if (Nat.blt l n || memN l (reachF h.m 1000 (rootsOf rs) [])) then h.get l else none := fun l =>
    get_filter (fun l => Nat.blt l n || memN l (reachF h.m 1000 (rootsOf rs) [])) l h.m
  refine ⟨⟨rfl, fun l b2 hb => ?_⟩, fun l hl => ?_⟩
  · rw [key] at hb
    split at hb
    · exact ⟨b2, hb, rfl, fun i x hx => ⟨x, hx, fun _ h => h⟩⟩
    · cases hb
  · have hl' : Nat.blt l n = true := by rw [Nat.blt_eq]; exact hl
    rw [key, hl']
    simp
theorem addE_ok {r : Ren} {i : Nat} : ∀ {cs out : List S} {j : Nat}, addE i j cs = some out → out.length = cs.length ∧ ∀ c x, nth cs c = some x → ∃ y, nth out c = some y ∧
    (∀ u, VS r x u → VS r y (if Base.rho i = ((j + c : Nat) : Int) then .bool true else u))
  | [], out, j, h => by cases h; exact ⟨rfl, fun c x hx => by cases hx⟩
  | a :: cs, out, j, h => by
    obtain ⟨y, hy, h⟩ := ob_some (show ob _ _ = some out from h)
    obtain ⟨q, hq, h⟩ := ob_some h
    cases h
    obtain ⟨h1, h2⟩ := addE_ok hq
    refine ⟨by simp [h1], fun c x hx => ?_⟩
    cases c with
    | zero =>
      cases hx
      refine ⟨y, rfl, fun u hu => ?_⟩
      rw [Nat.add_zero]
      split at hy <;> cases hy
      · cases hu; split <;> rfl
      · cases hu
        by_cases he : Base.rho i = (j : Int)
        · rw [if_pos he]; simp [VS, he]
        · rw [if_neg he]; simp [VS, he]
      · cases hu
        by_cases he : Base.rho i = (j : Int)
        · rw [if_pos he]; simp [VS, he]
        · rw [if_neg he]; simp [VS, he]
    | succ c =>
      obtain ⟨z, hz, hv⟩ := h2 c x hx
      refine ⟨z, hz, fun u hu => ?_⟩
      have := hv u hu
      rwa [show j + 1 + c = j + (c + 1) from by omega] at this
theorem storeX_ok {P : Program} {ty : Tys} (hi : Inv h r B w) {t : TypeId} {x v : S} {u u' : Value} (hu : VS r x u) (hv : VS r v u') {q : V} {h' : Heap} (hh : storeX ty h fl t x v = some (q, h')) :
    ∃ T l k w', ty t = some T ∧ T.size = 1 ∧ u = .pointer (some (r.at l k)) ∧ u' = .bool true ∧ (storeCells (r.at l k) [.bool true]).run P w = .ok () w' ∧ q = undef ∧ Inv h' r B w' ∧ Adv fl h r w h' r w' := by
  unfold storeX at hh
  split at hh
  · rename_i l o n i
    obtain ⟨T, hT, hh⟩ := ob_some hh
    cases hc : (T.size == 1 && Nat.ble fl l) <;> rw [hc] at hh <;> simp only [cond_true, cond_false] at hh
    · cases hh
    simp only [Bool.and_eq_true, beq_iff_eq] at hc
    obtain ⟨b, hb, hh⟩ := ob_some hh
    cases hbo : b.own <;> rw [hbo] at hh <;> simp only [cond_true, cond_false] at hh
    · cases hh
    obtain ⟨cs, hcs, hh⟩ := ob_some hh
    obtain ⟨ds, hds, hh⟩ := ob_some hh
    obtain ⟨es, hes, hh⟩ := ob_some hh
    cases hh
    obtain ⟨hl, k1, k2, rfl⟩ := hu
    cases hv
    obtain ⟨m, hm⟩ : ∃ m : Nat, Base.rho i = m := ⟨_, (Int.toNat_of_nonneg k1).symm⟩
    have hmn : m < n := by omega
    rw [hm, Int.toNat_natCast]
    obtain ⟨g1, g2, C, T', fz, g3, g4, g5, g6⟩ := hi.hr.own l b hb hbo
    obtain ⟨e1, hcs'⟩ := ext_eq hcs
    have e1 : o + n ≤ b.cells.length := by omega
    obtain ⟨a1, a2⟩ := addE_ok (r := r) hds
    have hcl : cs.length = n := by rw [hcs']; simp; omega
    obtain ⟨_, rfl⟩ := lay_eq hes
    have hbc : b.cells.length ≤ C.size := by
      obtain ⟨u, hu', _⟩ := g6 (b.cells.length - 1) (b.cells[b.cells.length - 1]'(by omega)) (by rw [nth_eq, List.getElem?_eq_getElem])
      have := (Array.getElem?_eq_some_iff.1 hu').1
      omega
    have hfit : o + m + [Value.bool true].length ≤ C.size := by simp; omega
    obtain ⟨D, d1, d2, d3, d4, d5, d6, d7⟩ := setCells_at [Value.bool true] (o + m) C w g3 hfit
    have hst := run_storeCells_cells (P := P) (r.blk l) (o + m) [Value.bool true] 0 w (fun j hj => by
        have hj : j < 1 := hj
        have : o + m + j < C.size := by simp at hfit; omega
        simp [World.cell?, g3, this]) (fun j hj => by
        have := g5 (o + m + 0 + j) (by simp at hfit hj; omega)
        simp only [World.frozen?, g3]
        exact this) (by intro v hv; simp at hv; subst hv; rfl)
    have hat : r.at l (o + m) = ⟨r.blk l, o + m, none⟩ := by simp [Ren.at, g2]
    have hD : ∀ j, D[j]? = if j = o + m then some (.bool true) else C[j]? := fun j => by
      rw [← Array.getElem?_toList, d2]
      simp at hfit
      by_cases c : j = o + m
      · subst c
        rw [if_pos rfl, List.getElem?_append_right (by simp; omega)]
        simp
        rw [Nat.min_eq_left (by omega), Nat.sub_self]
        rfl
      · rw [if_neg c]
        by_cases c1 : j < o + m
        · rw [List.getElem?_append_left (by simp; omega), List.getElem?_take_of_lt c1]
          simp
        · rw [List.getElem?_append_right (by simp; omega)]
          have : (C.toList.take (o + m)).length = o + m := by simp; omega
          rw [this]
          obtain ⟨d, hd⟩ : ∃ d, j - (o + m) = d + 1 := ⟨j - (o + m) - 1, by omega⟩
          rw [hd]
          simp
          congr 1
          omega
    have hDs : D.size = C.size := by
      have := congrArg List.length d2
      simp at this hfit
      omega
    refine ⟨T, l, o + m, _, hT, hc.1, rfl, rfl, by rw [hat]; simpa using hst, rfl, ?_⟩
    refine hi.write hb hbo (Nat.le_of_ble_eq_true hc.2) d4 d5 d6 d7 d3 d1 (by rw [hDs, g4]) (by rw [hDs]; exact g5) (fun j x hx => ?_)
    rw [hD]
    rw [nth_eq] at hx
    by_cases c1 : j < o
    · rw [List.getElem?_append_left (by simp; omega), List.getElem?_take_of_lt c1] at hx
      rw [if_neg (by omega)]
      exact g6 j x (by rw [nth_eq]; exact hx)
    · rw [List.getElem?_append_right (by simp; omega)] at hx
      have m1 : (b.cells.take o).length = o := by simp; omega
      rw [m1] at hx
      by_cases c2 : j - o < ds.length
      · rw [List.getElem?_append_left c2] at hx
        have hlt : j - o < cs.length := by omega
        obtain ⟨y, hy, hv⟩ := a2 (j - o) cs[j - o] (by rw [nth_eq, List.getElem?_eq_getElem])
        rw [nth_eq, hx] at hy
        cases hy
        have hb' : b.cells[j]? = some cs[j - o] := by
          have h1 : cs[j - o]? = b.cells[j]? := by
            have h2 := congrArg (fun l : List S => l[j - o]?) hcs'
            simp only [List.getElem?_take_of_lt (show j - o < n by omega), List.getElem?_drop, show o + (j - o) = j from by omega] at h2
            exact h2
          rw [← h1]
          exact List.getElem?_eq_getElem hlt
        obtain ⟨u, hu1, hu2⟩ := g6 j _ (by rw [nth_eq]; exact hb')
        have := hv u hu2
        rw [hm] at this
        by_cases c3 : j = o + m
        · rw [if_pos c3]
          rw [if_pos (by omega)] at this
          exact ⟨_, rfl, this⟩
        · rw [if_neg c3]
          rw [if_neg (by omega)] at this
          exact ⟨u, hu1, this⟩
      · rw [List.getElem?_append_right (by omega), List.getElem?_drop] at hx
        rw [if_neg (by omega)]
        refine g6 j x ?_
        rw [nth_eq, ← hx]
        congr 1
        omega
  · cases hh

theorem okApp_some {E : Ty} {k : Nat} {cs : List S} (h : okApp E k cs = true) : okE E = true ∧ k ≤ 65536 ∧ cs.length = k * E.size := by
  unfold okApp at h
  simp only [Bool.and_eq_true, beq_iff_eq] at h
  exact ⟨h.1.1, Nat.le_of_ble_eq_true h.1.2, h.2⟩
theorem zeroCells_size (Z : Array Value) (n : Nat) : (Builtin.zeroCells Z n).size = n * Z.size := by simp [Builtin.zeroCells]
theorem grow_ok (hty : TyOk P ty) (hi : Inv h r B w) {t t2 : TypeId} {E : Ty} (hE : elemOf ty t = some E) (hs2 : isSeq ty t2 = true) {n c k : Nat} {a : Option Addr} {u : Value} {old cs : List S} {olds us : List Value} (hk : okApp E k cs = true)
    (hsrc : Src P w E.size k u us) (hus : All2 (VS r) cs us) (holds : All2 (VS r) old olds) (hol : old.length = n * E.size) (hgrow : c < n + k) (hn : n ≤ 65536)
    (hold : (Builtin.firstCells E.size n (.slice a n c)).run P w.drew = .ok olds.toArray w.drew) (o : TypeId) (fl : Nat) :
    ∃ v w', (Builtin.append_ #[t, t2] o #[.slice a n c, u]).run P w = .ok v w' ∧ Post B fl h r w (V.s (.sl h.next 0 (n + k) E.size none)) (h.alloc (old ++ cs)) v w' := by
  obtain ⟨e, hd, hE'⟩ := elemOf_ok hty hE
  obtain ⟨d2, hd2, hd2'⟩ := isSeq_ok hty hs2
  obtain ⟨i, d, z, hi', hd', hz, h1, h2, h3, h4, h5⟩ := hty e E hE'
  obtain ⟨hok, hk1, hk2⟩ := okApp_some hk
  obtain ⟨hb, hs, hzl⟩ := okE_some hok
  have hzs : z.cells.size = E.size := by have := (h5 r).len; simp at this; omega
  rw [h2] at hsrc hold
  have hrun := app_grow (P := P) (w := w) (o := o) hd hd2 hd2' hi' hz hsrc hgrow hn hk1 (by omega) hold
  have hcap := grownCap_ge w (n + k) c e
  have hlen1 := holds.len
  have hlen2 := hus.len
  have hcs := all2_nth_app (holds.app hus) (Builtin.zeroCells z.cells (grownCap w (n + k) c e - (n + k)))
  have e0 : (olds ++ us).toArray = olds.toArray ++ us.toArray := by simp
  rw [e0] at hcs
  obtain ⟨g1, g2⟩ := new_row_drew hi hcs e fl
  have hsize : (olds.toArray ++ us.toArray ++ Builtin.zeroCells z.cells (grownCap w (n + k) c e - (n + k))).size = grownCap w (n + k) c e * E.size := by
    simp only [Array.size_append, List.size_toArray, zeroCells_size, hzs]
    rw [← hlen1, ← hlen2, hol, hk2, ← Nat.add_mul, ← Nat.add_mul]
    congr 1
    omega
  refine ⟨_, _, hrun, _, g1, ?_, g2⟩
  rw [hsize]
  exact sl_new' r h.next w.heap.size (n + k) E.size _ hs hcap (grownCap_le_maxLen _ _ _ _ (by simp only [maxLen]; omega))

theorem appQ_ok (hty : TyOk P ty) (hi : Inv h r B w) {t t2 : TypeId} {E : Ty} (hE : elemOf ty t = some E) (hs2 : isSeq ty t2 = true) {s x : S} {us ux : Value} (hus : VS r s us) (hux : VS r x ux) {k : Nat} {cs : List S} (hsrc : srcCells h x = some (k, cs))
    (hk : okApp E k cs = true) {v : V} {h' : Heap} (hq : appQ h E k cs s = some (v, h')) (o : TypeId) (fl : Nat) : ∃ z w', (Builtin.append_ #[t, t2] o #[us, ux]).run P w = .ok z w' ∧ Post B fl h r w v h' z w' := by
  obtain ⟨e, hd, hE'⟩ := elemOf_ok hty hE
  obtain ⟨d2, hd2, hd2'⟩ := isSeq_ok hty hs2
  obtain ⟨i, d, z, hi', hd', hz, h1, h2, h3, h4, h5⟩ := hty e E hE'
  obtain ⟨hok, hk1, hk2⟩ := okApp_some hk
  obtain ⟨hb, hs, hzl⟩ := okE_some hok
  obtain ⟨news, g1, g2⟩ := src_ok (P := P) hi hux hsrc hk2
  have same : ∀ (l o' n q : Nat) (c : Option Nat), VS r (.sl l o' n q c) us → k = 0 → ∃ z w', (Builtin.append_ #[t, t2] o #[us, ux]).run P w = .ok z w' ∧ Post B fl h r w (V.s (.sl l o' n q c)) h z w' := by
    intro l o' n q c hv h0
    subst h0
    have hv0 := hv
    obtain ⟨cc, rfl, hl, hz0, hn, _⟩ := sl_val hv
    have hnil : news = [] := by
      have := g1.len
      rw [hk2] at this
      exact List.eq_nil_of_length_eq_zero (by omega)
    subst hnil
    have hr := app_in (P := P) (w := w) (o := o) (a := r.at l o') (c := cc) hd hd2 hd2' hi' (h2 ▸ g2) (n := n) (by omega)
    exact ⟨_, _, by rw [hr]; simp [storeCells], Post.same hi hv0⟩
  unfold appQ at hq
  split at hq
  · cases hus
    cases h0 : (k == 0) <;> rw [h0] at hq <;> simp only [cond_true, cond_false] at hq
    · have hk0 : k ≠ 0 := by simpa using h0
      cases hq
      have := grow_ok hty hi hE hs2 (a := none) (n := 0) (c := 0) (old := []) (olds := []) hk g2 g1 trivial (by simp) (by omega) (by omega) rfl o fl
      simpa using this
    · cases hq
      have hk0 : k = 0 := by simpa using h0
      subst hk0
      exact ⟨_, _, app_nil0 hd hd2 hd2' hi' (h2 ▸ g2), Post.same hi rfl⟩
  · rename_i l o' n q c
    cases hc : (q == E.size && Nat.ble n 65536) <;> rw [hc] at hq <;> simp only [cond_true, cond_false] at hq
    · cases hq
    simp only [Bool.and_eq_true, beq_iff_eq] at hc
    obtain ⟨rfl, hn⟩ := hc
    have hn := Nat.le_of_ble_eq_true hn
    cases h0 : (k == 0) <;> rw [h0] at hq <;> simp only [cond_true, cond_false] at hq
    · cases hf : Nat.ble (n + k) c <;> rw [hf] at hq <;> simp only [cond_true, cond_false] at hq
      · obtain ⟨old, hold, hq⟩ := ob_some hq
        cases hq
        obtain ⟨olds, o1, o2, o3⟩ := load_cells (P := P) hi hold
        obtain ⟨cc, rfl, hl, hz0, hn', hcc⟩ := sl_val hus
        have hcc : cc = c := by rcases hcc with e | ⟨e, _⟩ <;> cases e; rfl
        subst hcc
        have hlt : cc < n + k := by
          rcases Nat.lt_or_ge cc (n + k) with h | h
          · exact h
          · rw [Nat.ble_eq_true_of_le h] at hf; cases hf
        exact grow_ok hty hi hE hs2 (a := some (r.at l o')) hk g2 g1 o1 (by have := o1.len; omega) hlt hn (o3 w.drew (fun _ => rfl)) o fl
      · cases hq
    · cases hq
      exact same _ _ _ _ _ hus (by simpa using h0)
  · rename_i l o' n q
    cases hc : (q == E.size && Nat.ble n 65536 && k == 0) <;> rw [hc] at hq <;> simp only [cond_true, cond_false] at hq
    · cases hq
    cases hq
    simp only [Bool.and_eq_true, beq_iff_eq] at hc
    exact same _ _ _ _ _ hus hc.2
  · cases hq

theorem clear_ok (hty : TyOk P ty) (hi : Inv h r B w) {t : TypeId} {E : Ty} (hE : elemOf ty t = some E) {s : S} {us : Value} (hus : VS r s us) {v : V} {h' : Heap} (hq : clearS h fl E s = some (v, h')) (o : TypeId) : ∃ w', (Builtin.clear_ #[t] o #[us]).run P w = .ok Go.undef w' ∧ Post B fl h r w v h' Go.undef w' := by
  obtain ⟨e, hd, hE'⟩ := elemOf_ok hty hE
  obtain ⟨i, d, z, hi', hd', hz, h1, h2, h3, h4, h5⟩ := hty e E hE'
  unfold clearS at hq
  split at hq
  · cases hus; cases hq
    exact ⟨w, by simp [Builtin.clear_, run_underlying hd, Go.undef], Post.same hi VS.undef⟩
  · obtain ⟨a, c, rfl⟩ := hus
    cases hq
    exact ⟨w, by simp [Builtin.clear_, run_underlying hd, Go.undef], Post.same hi VS.undef⟩
  · rename_i l o' n q c
    obtain ⟨cc, rfl, hl, hz0, hn', hcc⟩ := sl_val hus
    cases h0 : (n == 0) <;> rw [h0] at hq <;> simp only [cond_true, cond_false] at hq
    · cases hc : (q == E.size && okE E && Nat.ble fl l) <;> rw [hc] at hq <;> simp only [cond_true, cond_false] at hq
      · cases hq
      simp only [Bool.and_eq_true, beq_iff_eq] at hc
      obtain ⟨⟨rfl, hok⟩, hfl⟩ := hc
      obtain ⟨hb, hs, hzl⟩ := okE_some hok
      have hzs : z.cells.size = E.size := by have := (h5 r).len; simp at this; omega
      obtain ⟨b, hb', hq⟩ := ob_some hq
      cases ho : b.own <;> rw [ho] at hq <;> simp only [cond_true, cond_false] at hq
      · cases hq
      obtain ⟨cs', hl', hq⟩ := ob_some hq
      cases hq
      have hc0 : All2 (VS r) (rep n E.zero) (Builtin.zeroCells z.cells n).toList := by
        have := zeros_rep z.cells (by omega) n
        unfold Builtin.zeroCells
        simp only [Array.toList_map, Array.toList_range, this]
        exact all2_rep (h5 r) n
      obtain ⟨r1, r2, r3⟩ := lay_ok (P := P) (fl := fl) hi hb' ho (Nat.le_of_ble_eq_true hfl) hc0 hl'
      have hn0 : n ≠ 0 := by simpa using h0
      refine ⟨_, ?_, r, r2, VS.undef, r3⟩
      obtain ⟨m, rfl⟩ := Nat.exists_eq_succ_of_ne_zero hn0
      simp [Builtin.clear_, run_underlying hd, zeroValue, typeInfo, hi', hz, r1, Go.undef]
    · cases hq
      have hn0 : n = 0 := by simpa using h0
      subst hn0
      exact ⟨w, by simp [Builtin.clear_, run_underlying hd, Go.undef], Post.same hi VS.undef⟩
  · cases hq

theorem Heap.del_alloc_get (h : Heap) (l : Nat) (cs : List S) (k : Nat) : Heap.get ⟨(h.next, ⟨cs, true⟩) :: Hp.del h.m l, h.next + 1⟩ k = if k = h.next then some ⟨cs, true⟩ else if k = l then none else h.get k := by
  show Hp.get ((h.next, _) :: Hp.del h.m l) k = _
  rw [Hp.get_cons, Hp.get_del]
  by_cases e : k = h.next
  · subst e; simp
  · rw [if_neg e]
    have : (h.next == k) = false := by simpa using fun e' => e e'.symm
    simp only [this, cond_false]
    rfl
set_option maxHeartbeats 1000000 in
/-- a row that is written behind its end: its old name goes -/
theorem appW_ok (hty : TyOk P ty) (hi : Inv h r B w) {t t2 : TypeId} {E : Ty} (hE : elemOf ty t = some E) (hs2 : isSeq ty t2 = true) {s x : S} {us ux : Value} (hus : VS r s us) (hux : VS r x ux) {k : Nat} {cs : List S} (hsrc : srcCells h x = some (k, cs))
    (hk : okApp E k cs = true) (hsz : szS s = E.size) {v : V} {h' : Heap} (hq : appW h fl k cs s = some (v, h')) (o : TypeId) : ∃ z w', (Builtin.append_ #[t, t2] o #[us, ux]).run P w = .ok z w' ∧ Post B fl h r w v h' z w' := by
  obtain ⟨e, hd, hE'⟩ := elemOf_ok hty hE
  obtain ⟨d2, hd2, hd2'⟩ := isSeq_ok hty hs2
  obtain ⟨i, d, z, hi', hd', hz, h1, h2, h3, h4, h5⟩ := hty e E hE'
  obtain ⟨hok, hk1, hk2⟩ := okApp_some hk
  obtain ⟨hb, hs, hzl⟩ := okE_some hok
  obtain ⟨news, g1, g2⟩ := src_ok (P := P) hi hux hsrc hk2
  unfold appW at hq
  split at hq
  · rename_i l o' n q c
    have hq' : q = E.size := hsz
    subst hq'
    cases hc : (Nat.ble n 65536 && Nat.ble (n + k) c && Nat.ble fl l) <;> rw [hc] at hq <;> simp only [cond_true, cond_false] at hq
    · cases hq
    simp only [Bool.and_eq_true] at hc
    have hnk := Nat.le_of_ble_eq_true hc.1.2
    have hfl := Nat.le_of_ble_eq_true hc.2
    obtain ⟨b, hb', hq⟩ := ob_some hq
    cases ho : b.own <;> rw [ho] at hq <;> simp only [cond_true, cond_false] at hq
    · cases hq
    obtain ⟨cs', hl', hq⟩ := ob_some hq
    cases hq
    obtain ⟨cc, rfl, hl, hz0, hn', hcc⟩ := sl_val hus
    have hcc : cc = c := by rcases hcc with e | ⟨e, _⟩ <;> cases e; rfl
    subst hcc
    obtain ⟨r1, r2, r3⟩ := lay_ok (P := P) (fl := fl) hi hb' ho hfl g1 hl'
    have hr := app_in (P := P) (w := w) (o := o) (a := r.at l o') (c := cc) hd hd2 hd2' hi' (h2 ▸ g2) (n := n) hnk
    rw [Addr.add_at, ← h2, r1] at hr
    exact ⟨_, _, hr, r, r2, ⟨hl, hz0, hnk, rfl⟩, r3⟩
  · rename_i l o' n q
    have hq' : q = E.size := hsz
    subst hq'
    cases hc : (Nat.ble n 65536 && Nat.ble fl l && o' == 0) <;> rw [hc] at hq <;> simp only [cond_true, cond_false] at hq
    · cases hq
    simp only [Bool.and_eq_true, beq_iff_eq] at hc
    obtain ⟨⟨hn, hfl⟩, rfl⟩ := hc
    have hn := Nat.le_of_ble_eq_true hn
    have hfl := Nat.le_of_ble_eq_true hfl
    obtain ⟨b, hb', hq⟩ := ob_some hq
    cases ho : (b.own && Nat.ble (n * E.size) b.cells.length) <;> rw [ho] at hq <;> simp only [cond_true, cond_false] at hq
    · cases hq
    simp only [Bool.and_eq_true] at ho
    obtain ⟨ho, hbl0⟩ := ho
    have hbl0 := Nat.le_of_ble_eq_true hbl0
    have hbl : (b.cells.take (n * E.size)).length = n * E.size := by rw [List.length_take]; omega
    cases hq
    have hus0 := hus
    obtain ⟨cc, rfl, hl, hz0, hn', hcc⟩ := sl_val hus
    have hcc : cc = r.cap l / E.size := by rcases hcc with e | ⟨_, e⟩; · cases e
                                           · simpa using e
    obtain ⟨q1, q2, C, T, fz, q3, q4, q5, q6⟩ := hi.hr.own l b hb' ho
    have hread : h.read l 0 (n * E.size) = some (b.cells.take (n * E.size)) := by
      show ob (h.get l) (fun b => ext b.cells 0 (n * E.size)) = _
      rw [hb']
      have : ∀ (l' : List S) (m : Nat), m ≤ l'.length → taken l' m = some (l'.take m) := by
        intro l'
        induction l' with
        | nil => intro m hm; obtain rfl : m = 0 := by simpa using hm
                 rfl
        | cons a t ih =>
          intro m hm
          cases m with
          | zero => rfl
          | succ m =>
            show (Option.rec none (fun r => some (a :: r)) (taken t m) : Option (List S)) = _
            rw [ih m (by simpa using hm)]
            rfl
      simp only [ob_some', ext, List.drop_zero]
      exact this _ _ hbl0
    by_cases hroom : n + k ≤ cc
    · -- there is room: the block goes on under a new name
      have hmul : (n + k) * E.size ≤ C.size := by
        rw [q4]
        refine Nat.le_trans (Nat.mul_le_mul_right _ hroom) ?_
        rw [hcc]
        exact Nat.div_mul_le_self _ _
      have hnl := g1.len
      have hfit : n * E.size + news.length ≤ C.size := by
        rw [← hnl, hk2, ← Nat.add_mul]; exact hmul
      obtain ⟨D, d1, d2, d3, d4, d5, d6, d7⟩ := setCells_at news (n * E.size) C w q3 hfit
      have hone := all_one g1
      have hst := run_storeCells_cells (P := P) (r.blk l) (n * E.size) news 0 w (fun j hj => by
          have : n * E.size + j < C.size := by omega
          simp [World.cell?, q3, this]) (fun j hj => by
          have := q5 (n * E.size + 0 + j) (by omega)
          simp only [World.frozen?, q3]
          exact this) hone
      have hat : r.at l (n * E.size) = ⟨r.blk l, n * E.size, none⟩ := by simp [Ren.at, q2]
      have hr := app_in (P := P) (w := w) (o := o) (a := r.at l 0) (c := cc) hd hd2 hd2' hi' (h2 ▸ g2) (n := n) hroom
      rw [Addr.add_at, ← h2, Nat.zero_add, hat] at hr
      simp only [Nat.add_zero] at hst
      rw [hst] at hr
      have hDs : D.size = C.size := by
        have := congrArg List.length d2
        simp at this
        omega
      have hle := r.le_new h.next (r.blk l) C.size (Inv.not h hi)
      have hdl := hi.n l (hi.hr.dom l b hb')
      have hnb : (r.new h.next (r.blk l) C.size).blk h.next = r.blk l := by simp [Ren.new]
      have hDC : ∀ j, j < n * E.size → D[j]? = C[j]? := fun j hj => by
        have e1 : D[j]? = D.toList[j]? := by rw [Array.getElem?_toList]
        rw [e1, d2, List.getElem?_append_left (by simp; omega), List.getElem?_take_of_lt hj, Array.getElem?_toList]
      refine ⟨_, _, hr, r.new h.next (r.blk l) C.size, ⟨fun l hl => by
          show l < h.next + 1
          rcases hl with hl | hl
          · have := hi.n l hl; omega
          · omega, by rw [d7]; exact hi.b, ?_⟩, ?_, ?_⟩
      · refine ⟨fun m c hm => ?_, fun m c hm hc => ?_, fun m c hm hc => ?_, fun m c m' c' e1 o1 e2 o2 e => ?_, hi.hr.nb, fun k hk => (d3 k (by have := hi.hr.nb; omega)).trans (hi.hr.z k hk)⟩
        · rw [Heap.del_alloc_get] at hm
          split at hm
          · rename_i e; exact .inr e
          · split at hm
            · cases hm
            · exact .inl (hi.hr.dom m c hm)
        · rw [Heap.del_alloc_get] at hm
          split at hm
          · rename_i e; subst e; cases hm
            rw [hnb]
            refine ⟨q1, by simp [Ren.new], D, T, fz, d1, by simp [Ren.new, hDs], by rw [hDs]; exact q5, fun i x hx => ?_⟩
            rw [nth_eq] at hx
            by_cases c1 : i < (b.cells.take (n * E.size)).length
            · rw [List.getElem?_append_left c1] at hx
              obtain ⟨u, hu1, hu2⟩ := q6 i x (by rw [nth_eq]; rw [List.getElem?_take] at hx; split at hx <;> first | exact hx | cases hx)
              exact ⟨u, by rw [hDC i (by omega)]; exact hu1, VS.mono hle hu2⟩
            · rw [List.getElem?_append_right (by omega)] at hx
              obtain ⟨u, hu1, hu2⟩ := All2.nth g1 (by rw [nth_eq]; exact hx)
              refine ⟨u, ?_, VS.mono hle hu2⟩
              have e1 : D[i]? = D.toList[i]? := by rw [Array.getElem?_toList]
              have e2 : (C.toList.take (n * E.size)).length = n * E.size := by simp; omega
              rw [e1, d2, List.getElem?_append_right (by omega), e2, ← hbl]
              rw [List.getElem?_append_left (List.getElem?_eq_some_iff.1 hu1).1]
              exact hu1
          · rename_i e
            split at hm
            · cases hm
            · rename_i e'
              obtain ⟨p1, p2, C', T', fz', p3, p4, p5, p6⟩ := hi.hr.own m c hm hc
              have hml := hi.hr.dom m c hm
              rw [hle.blk m hml, hle.off m hml, hle.cap m hml]
              exact ⟨p1, p2, C', T', fz', by rw [d3 _ (fun e'' => e' (hi.hr.inj m c l b hm hc hb' ho e''))]; exact p3, p4, p5, fun i x hx => by obtain ⟨u, hu1, hu2⟩ := p6 i x hx; exact ⟨u, hu1, VS.mono hle hu2⟩⟩
        · rw [Heap.del_alloc_get] at hm
          split at hm
          · cases hm; cases hc
          · split at hm
            · cases hm
            · obtain ⟨p1, p2⟩ := hi.hr.ro m c hm hc
              have hml := hi.hr.dom m c hm
              rw [hle.blk m hml]
              refine ⟨p1, fun i x hx => ?_⟩
              obtain ⟨u, hu, hv⟩ := p2 i x hx
              rw [hle.at hml]
              have e : (w.setCells (r.blk l) (n * E.size) news).cell? (r.at m i) = w.cell? (r.at m i) := World.cell?_of_block (d3 _ (by show r.blk m ≠ _; omega))
              exact ⟨u, by rw [e]; exact hu, VS.mono hle hv⟩
        · have key : ∀ m c, Heap.get ⟨(h.next, ⟨b.cells.take (n * E.size) ++ cs, true⟩) :: Hp.del h.m l, h.next + 1⟩ m = some c → c.own = true → (m = h.next ∧ (r.new h.next (r.blk l) C.size).blk m = r.blk l) ∨ (m ≠ h.next ∧ m ≠ l ∧ h.get m = some c ∧ (r.new h.next (r.blk l) C.size).blk m = r.blk m) := fun m c hm hc => by
            rw [Heap.del_alloc_get] at hm
            split at hm
            · rename_i e; exact .inl ⟨e, by rw [e, hnb]⟩
            · rename_i e
              split at hm
              · cases hm
              · rename_i e'
                exact .inr ⟨e, e', hm, hle.blk m (hi.hr.dom m c hm)⟩
          rcases key m c e1 o1 with ⟨a1, a2⟩ | ⟨a1, a2, a3, a4⟩ <;> rcases key m' c' e2 o2 with ⟨b1, b2⟩ | ⟨b1, b2, b3, b4⟩
          · omega
          · rw [a2, b4] at e
            exact absurd (hi.hr.inj m' c' l b b3 o2 hb' ho e.symm) b2
          · rw [a4, b2] at e
            exact absurd (hi.hr.inj m c l b a3 o1 hb' ho e) a2
          · rw [a4, b4] at e
            exact hi.hr.inj m c m' c' a3 o1 b3 o2 e
      · have hcapn : (r.new h.next (r.blk l) C.size).cap h.next = r.cap l := by simp [Ren.new, q4]
        have hatn : (r.new h.next (r.blk l) C.size).at h.next 0 = r.at l 0 := by simp [Ren.at, Ren.new, q2]
        refine ⟨.inr rfl, ⟨hs, by rw [hcapn]; exact hus0.2.1.2⟩, ?_, ?_⟩
        · rw [hcapn, Nat.sub_zero, ← hcc]; exact hroom
        · rw [hcapn, hatn, Nat.sub_zero, ← hcc]
      · refine ⟨hle, Nat.le_succ _, fun l hl => by
            rcases hl with hl | hl
            · exact .inl hl
            · exact .inr (Nat.le_of_eq hl.symm), d4, d5, d6, by omega, fun m _ hno => d3 m (fun e => hno l b hb' ho hfl e.symm), fun m hm hmf => ?_, fun m c hm hc => ?_, fun m c hm hc => ?_⟩
        · rw [Heap.del_alloc_get, if_neg (by omega), if_neg (by omega)]
        · rw [Heap.del_alloc_get, if_neg (by omega)] at hc
          split at hc
          · cases hc
          · exact ⟨c, hc, rfl⟩
        · rw [Heap.del_alloc_get] at hc
          split at hc
          · rename_i e; subst e; cases hc
            exact ⟨rfl, .inr ⟨l, b, hb', ho, hfl, hnb⟩⟩
          · split at hc
            · cases hc
            · have := hi.n m (hi.hr.dom m c hc); omega
    · -- no room: a new row
      obtain ⟨olds, o1, o2, o3⟩ := load_cells (P := P) hi hread
      obtain ⟨zz, w', hrun, r', p1, p2, p3⟩ := grow_ok hty hi hE hs2 (a := some (r.at l 0)) (c := cc) hk g2 g1 o1 hbl (Nat.lt_of_not_le hroom) hn (o3 w.drew (fun _ => rfl)) o fl
      refine ⟨zz, w', hrun, r', ?_, p2, ?_⟩
      · refine ⟨p1.n, p1.b, p1.hr.sub fun m c hm => ?_⟩
        rw [Heap.del_alloc_get] at hm
        rw [Heap.get_alloc]
        split at hm
        · rename_i e; rw [if_pos e]; exact hm
        · rename_i e
          split at hm
          · cases hm
          · rw [if_neg e]; exact hm
      · have hdl := hi.n l (hi.hr.dom l b hb')
        refine ⟨p3.le, p3.nn, p3.okn, p3.os, p3.tape, p3.output, p3.size, p3.frame, fun m hm hmf => ?_, fun m c hm hc => ?_, fun m c hm hc => ?_⟩
        · rw [Heap.del_alloc_get, if_neg (by omega), if_neg (by omega)]
        · rw [Heap.del_alloc_get, if_neg (by omega)] at hc
          split at hc
          · cases hc
          · exact ⟨c, hc, rfl⟩
        · rw [Heap.del_alloc_get] at hc
          split at hc
          · rename_i e
            exact p3.fresh m c hm (by rw [Heap.get_alloc, if_pos e]; exact hc)
          · split at hc
            · cases hc
            · have := hi.n m (hi.hr.dom m c hc); omega
  · cases hq
end
end Go.Proofs.YtaamdiknefodgaaDoor.Am
