/- Truth values of which some are laid where numbers that are not written out say: the numbers of the true ones, in order. (No program in sight.) -/
import Derived.Test.YtaamdiknefodgaaDoorAmLeaf
namespace Go.Proofs.YtaamdiknefodgaaDoor.Am
open Go.RowKit
set_option linter.unusedSectionVars false
set_option linter.unusedVariables false
noncomputable section

/-- the numbers of the truth values that are true, from i on -/
def incr : Nat → List Bool → List Int
  | _, [] => []
  | i, b :: t => (bif b then [(i : Int)] else []) ++ incr (i + 1) t
theorem incr_len : ∀ (bs : List Bool) (i : Nat), (incr i bs).length ≤ bs.length
  | [], _ => by simp [incr]
  | b :: t, i => by
    have := incr_len t (i + 1)
    cases b <;> simp [incr] <;> omega
theorem incr_app : ∀ (bs : List Bool) (i : Nat) (b : Bool), incr i (bs ++ [b]) = incr i bs ++ bif b then [((i + bs.length : Nat) : Int)] else []
  | [], i, b => by simp [incr]
  | c :: t, i, b => by
    have := incr_app t (i + 1) b
    have e : i + 1 + t.length = i + (t.length + 1) := by omega
    simp only [List.cons_append, incr, this, List.length_cons, e, List.append_assoc]
theorem incr_mem : ∀ (bs : List Bool) (i : Nat) (x : Int), x ∈ incr i bs ↔ ∃ j, bs[j]? = some true ∧ x = ((i + j : Nat) : Int)
  | [], i, x => by simp [incr]
  | b :: t, i, x => by
    rw [incr, List.mem_append, incr_mem t (i + 1) x]
    constructor
    · rintro (h | ⟨j, h, rfl⟩)
      · cases b <;> simp at h
        exact ⟨0, rfl, by simpa using h⟩
      · exact ⟨j + 1, by simpa using h, by omega⟩
    · rintro ⟨j, h, rfl⟩
      cases j with
      | zero => simp at h; subst h; exact .inl (by simp)
      | succ j => exact .inr ⟨j, by simpa using h, by omega⟩
theorem incr_sorted : ∀ (bs : List Bool) (i : Nat), List.Pairwise (· < ·) (incr i bs)
  | [], i => by simp [incr]
  | b :: t, i => by
    have h := incr_sorted t (i + 1)
    cases b
    · simpa [incr] using h
    · simp only [incr, cond_true, List.cons_append, List.nil_append, List.pairwise_cons]
      refine ⟨fun x hx => ?_, h⟩
      obtain ⟨j, _, rfl⟩ := (incr_mem t (i + 1) x).1 hx
      omega
theorem sorted_eq : ∀ {l m : List Int}, List.Pairwise (· < ·) l → List.Pairwise (· < ·) m → (∀ x, x ∈ l ↔ x ∈ m) → l = m
  | [], [], _, _, _ => rfl
  | [], y :: m, _, _, h => by have := (h y).2 (by simp); simp at this
  | x :: l, [], _, _, h => by have := (h x).1 (by simp); simp at this
  | x :: l, y :: m, h1, h2, h => by
    rw [List.pairwise_cons] at h1 h2
    have hx := (h x).1 (by simp)
    have hy := (h y).2 (by simp)
    have e : x = y := by
      rcases List.mem_cons.1 hx with e | hx
      · exact e
      · rcases List.mem_cons.1 hy with e | hy
        · exact e.symm
        · have := h1.1 _ hy
          have := h2.1 _ hx
          omega
    subst e
    congr 1
    refine sorted_eq h1.2 h2.2 fun z => ⟨fun hz => ?_, fun hz => ?_⟩
    · have := h1.1 _ hz
      rcases List.mem_cons.1 ((h z).1 (List.mem_cons_of_mem _ hz)) with e | h
      · omega
      · exact h
    · have := h2.1 _ hz
      rcases List.mem_cons.1 ((h z).2 (List.mem_cons_of_mem _ hz)) with e | h
      · omega
      · exact h

section
variable [Know]
def insN (a : N) : List N → Option (List N)
  | [] => some [a]
  | b :: r => ob (ltX a b) fun l => bif l then some (a :: b :: r) else ob (ltX b a) fun l => bif l then ob (insN a r) fun r => some (b :: r) else some (b :: r)
def insAll : List N → Option (List N)
  | [] => some []
  | a :: r => ob (insAll r) (insN a)
def S.isT (x : S) : Bool := match x with | .bool b => b | _ => false
def truesN : Nat → List S → List N
  | _, [] => []
  | j, x :: r => (bif x.isT then [.c (j : Int)] else []) ++ truesN (j + 1) r
def atomsN : List S → List Nat
  | [] => []
  | x :: r => match x with | .xe l => l.map (·.1) | _ => atomsN r
def fitN (X : List Nat) : Nat → List S → Bool
  | _, [] => true
  | j, x :: r => (match x with | .bool b => b || X.isEmpty | .xe l => sameE l (X.map fun i => (i, (j : Int))) | _ => false) && fitN X (j + 1) r
def cellN : N → S
  | .c n => .int .i64 n
  | .x i => .xi .i64 i
def inN (n : Nat) (i : Nat) : Bool := Option.rec false (fun p => decide (0 ≤ p.1) && decide (p.2 < (n : Int))) (nth Know.iv i)
/-- the numbers of the true ones, of n -/
def incL (n : Nat) (cells : List S) : Option (List S) :=
  bif (atomsN cells).isEmpty then none else
    bif Nat.beq cells.length n && fitN (atomsN cells) 0 cells && (atomsN cells).all (inN n) then ob (insAll ((atomsN cells).map .x ++ truesN 0 cells)) fun l => some (l.map cellN) else none
end
variable [Base]
theorem insN_ok {a : N} : ∀ {l l' : List N}, insN a l = some l' → List.Pairwise (· < ·) (l.map NV) → List.Pairwise (· < ·) (l'.map NV) ∧ ∀ x, x ∈ l'.map NV ↔ x = NV a ∨ x ∈ l.map NV
  | [], l', h, _ => by cases h; simp
  | b :: r, l', h, hs => by
    have h : ob (ltX a b) (fun l => bif l then some (a :: b :: r) else ob (ltX b a) fun l => bif l then ob (insN a r) fun r => some (b :: r) else some (b :: r)) = some l' := h
    obtain ⟨c, hc, h⟩ := ob_some h
    have hc := ltX_ok hc
    cases c
    · simp only [cond_false] at h
      obtain ⟨d, hd, h⟩ := ob_some h
      have hd := ltX_ok hd
      have hc : ¬ NV a < NV b := by simpa using hc.symm
      simp only [List.map_cons, List.pairwise_cons] at hs
      cases d
      · simp only [cond_false, Option.some.injEq] at h
        subst h
        have hd : ¬ NV b < NV a := by simpa using hd.symm
        refine ⟨by simpa using hs, fun x => ?_⟩
        simp only [List.map_cons, List.mem_cons]
        constructor
        · exact fun h => .inr h
        · rintro (rfl | h)
          · exact .inl (by omega)
          · exact h
      · simp only [cond_true] at h
        obtain ⟨r', hr, h⟩ := ob_some h
        cases h
        have hd : NV b < NV a := by simpa using hd.symm
        obtain ⟨h1, h2⟩ := insN_ok hr hs.2
        refine ⟨?_, fun x => ?_⟩
        · simp only [List.map_cons, List.pairwise_cons]
          refine ⟨fun x hx => ?_, h1⟩
          rcases (h2 x).1 hx with rfl | hx
          · exact hd
          · exact hs.1 x hx
        · simp only [List.map_cons, List.mem_cons, h2 x]
          constructor
          · rintro (h | h | h)
            · exact .inr (.inl h)
            · exact .inl h
            · exact .inr (.inr h)
          · rintro (h | h | h)
            · exact .inr (.inl h)
            · exact .inl h
            · exact .inr (.inr h)
    · simp only [cond_true, Option.some.injEq] at h
      subst h
      have hc : NV a < NV b := by simpa using hc.symm
      refine ⟨?_, fun x => by simp⟩
      simp only [List.map_cons, List.pairwise_cons] at hs ⊢
      refine ⟨fun x hx => ?_, hs⟩
      rcases List.mem_cons.1 hx with rfl | hx
      · exact hc
      · have := hs.1 x hx; omega
theorem insAll_ok : ∀ {l l' : List N}, insAll l = some l' → List.Pairwise (· < ·) (l'.map NV) ∧ ∀ x, x ∈ l'.map NV ↔ x ∈ l.map NV
  | [], l', h => by cases h; simp
  | a :: r, l', h => by
    obtain ⟨m, hm, h⟩ := ob_some (show ob (insAll r) (insN a) = some l' from h)
    obtain ⟨h1, h2⟩ := insAll_ok hm
    obtain ⟨h3, h4⟩ := insN_ok h h1
    exact ⟨h3, fun x => by rw [h4 x, h2 x, List.map_cons, List.mem_cons]⟩
theorem S.isT_iff {x : S} : x.isT = true ↔ x = .bool true := by
  cases x <;> simp [S.isT]
theorem truesN_mem : ∀ (cells : List S) (j : Nat) (x : Int), x ∈ (truesN j cells).map NV ↔ ∃ k, cells[k]? = some (.bool true) ∧ x = ((j + k : Nat) : Int)
  | [], j, x => by simp [truesN]
  | c :: r, j, x => by
    rw [truesN, List.map_append, List.mem_append, truesN_mem r (j + 1) x]
    constructor
    · rintro (h | ⟨k, h, rfl⟩)
      · cases hc : c.isT <;> rw [hc] at h
        · simp at h
        · exact ⟨0, by simp [S.isT_iff.1 hc], by simpa [NV] using h⟩
      · exact ⟨k + 1, by simpa using h, by omega⟩
    · rintro ⟨k, h, rfl⟩
      cases k with
      | zero => simp at h; subst h; exact .inl (by simp [NV, S.isT])
      | succ k => exact .inr ⟨k, by simpa using h, by omega⟩
theorem fitN_at (X : List Nat) : ∀ (cells : List S) (j : Nat), fitN X j cells = true → ∀ k c, cells[k]? = some c → (c = S.bool true ∨ (c = S.bool false ∧ X = []) ∨ c = S.xe (X.map fun i => (i, ((j + k : Nat) : Int))))
  | [], j, _, k, c, h => by simp at h
  | x :: r, j, hf, k, c, h => by
    simp only [fitN, Bool.and_eq_true] at hf
    cases k with
    | zero =>
      simp at h
      subst h
      have h1 := hf.1
      split at h1
      · rename_i b
        cases b
        · exact .inr (.inl ⟨rfl, by simpa using h1⟩)
        · exact .inl rfl
      · rw [sameE_eq h1]; exact .inr (.inr rfl)
      · cases h1
    | succ k =>
      have := fitN_at X r (j + 1) hf.2 k c (by simpa using h)
      rwa [show j + 1 + k = j + (k + 1) by omega] at this
theorem cellsN_ok (r : Ren) : ∀ l : List N, All2 (VS r) (l.map cellN) ((l.map NV).map (Value.int .i64))
  | [] => trivial
  | .c n :: l => ⟨rfl, cellsN_ok r l⟩
  | .x i :: l => ⟨rfl, cellsN_ok r l⟩
theorem incL_ok {n : Nat} {cells l : List S} (h : incL n cells = some l) {r : Ren} {us : List Value} (hu : All2 (VS r) cells us) :
    ∃ bs : List Bool, us = bs.map Value.bool ∧ bs.length = n ∧ ∀ r', All2 (VS r') l ((incr 0 bs).map (Value.int .i64)) := by
  unfold incL at h
  cases he : (atomsN cells).isEmpty <;> rw [he] at h <;> simp only [cond_true, cond_false] at h
  case true => cases h
  cases hc : (Nat.beq cells.length n && fitN (atomsN cells) 0 cells && (atomsN cells).all (inN n)) <;> rw [hc] at h <;> simp only [cond_true, cond_false] at h
  case false => cases h
  obtain ⟨L, hL, h⟩ := ob_some h
  cases h
  simp only [Bool.and_eq_true] at hc
  obtain ⟨⟨hlen, hfit⟩, hall⟩ := hc
  have hlen := Nat.eq_of_beq_eq_true hlen
  generalize hX : atomsN cells = X at *
  obtain ⟨hs, hm⟩ := insAll_ok hL
  have hfit := fitN_at X cells 0 hfit
  have hus : ∃ bs : List Bool, us = bs.map Value.bool := by
    have key : ∀ (cs : List S) (vs : List Value), All2 (VS r) cs vs → (∀ c ∈ cs, c = .bool true ∨ c = .bool false ∨ ∃ m, c = .xe m) → ∃ bs : List Bool, vs = bs.map Value.bool := by
      intro cs
      induction cs with
      | nil => intro vs h _; cases vs with | nil => exact ⟨[], rfl⟩ | cons _ _ => exact h.elim
      | cons c cs ih =>
        intro vs h hc
        cases vs with
        | nil => exact h.elim
        | cons v vs =>
          obtain ⟨bs, rfl⟩ := ih vs h.2 fun c hm => hc c (List.mem_cons_of_mem _ hm)
          rcases hc c (by simp) with rfl | rfl | ⟨m, rfl⟩
          · exact ⟨true :: bs, by rw [show v = .bool true from h.1]; rfl⟩
          · exact ⟨false :: bs, by rw [show v = .bool false from h.1]; rfl⟩
          · exact ⟨_ :: bs, by rw [show v = .bool _ from h.1]; rfl⟩
    refine key cells us hu fun c hc => ?_
    obtain ⟨k, hk⟩ := List.getElem?_of_mem hc
    rcases hfit k c hk with h | ⟨h, _⟩ | h
    · exact .inl h
    · exact .inr (.inl h)
    · exact .inr (.inr ⟨_, h⟩)
  obtain ⟨bs, rfl⟩ := hus
  have hbl : bs.length = n := by have := hu.len; simp at this; omega
  refine ⟨bs, rfl, hbl, fun r' => ?_⟩
  have e : L.map NV = incr 0 bs := by
    refine sorted_eq hs (incr_sorted bs 0) fun x => ?_
    rw [hm x, List.map_append, List.mem_append, truesN_mem, incr_mem]
    have hin : ∀ i ∈ X, 0 ≤ Base.rho i ∧ Base.rho i < n := fun i hi => by
      have := List.all_eq_true.1 hall i hi
      unfold inN at this
      cases hp : nth (α := Int × Int) Know.iv i with
      | none => rw [hp] at this; cases this
      | some p =>
        rw [hp] at this
        simp only [Bool.and_eq_true, decide_eq_true_eq] at this
        have h2 := Base.ok.iv i p hp
        omega
    constructor
    · rintro (h | ⟨k, h, rfl⟩)
      · simp only [List.map_map, List.mem_map, Function.comp] at h
        obtain ⟨i, hi, rfl⟩ := h
        obtain ⟨h0, h1⟩ := hin i hi
        have hk : (Base.rho i).toNat < cells.length := by omega
        have hc : cells[(Base.rho i).toNat]? = some (cells[(Base.rho i).toNat]) := List.getElem?_eq_getElem hk
        obtain ⟨u, hu1, hu2⟩ := All2.nth hu (by rw [nth_eq]; exact hc)
        refine ⟨(Base.rho i).toNat, ?_, by show Base.rho i = _; omega⟩
        rw [List.getElem?_map] at hu1
        cases hb : bs[(Base.rho i).toNat]? with
        | none => rw [hb] at hu1; cases hu1
        | some b =>
          rw [hb] at hu1
          cases hu1
          rcases hfit _ _ hc with h | ⟨_, h⟩ | h
          · rw [h] at hu2
            cases hu2
            rfl
          · rw [h] at hi; simp at hi
          · rw [h] at hu2
            have : Value.bool b = .bool _ := hu2
            have hb' : b = true := by
              have e := (Value.bool.inj this)
              rw [e, List.any_eq_true]
              refine ⟨(i, _), List.mem_map.2 ⟨i, hi, rfl⟩, ?_⟩
              simp
              omega
            rw [hb']
      · obtain ⟨u, hu1, hu2⟩ := All2.nth hu (by rw [nth_eq]; exact h)
        cases hu2
        refine ⟨k, ?_, by omega⟩
        rw [List.getElem?_map] at hu1
        cases hb : bs[k]? with
        | none => rw [hb] at hu1; cases hu1
        | some b => rw [hb] at hu1; simp at hu1; rw [hu1]
    · rintro ⟨k, h, rfl⟩
      have hk : k < cells.length := by have := (List.getElem?_eq_some_iff.1 h).1; omega
      have hc : cells[k]? = some cells[k] := List.getElem?_eq_getElem hk
      obtain ⟨u, hu1, hu2⟩ := All2.nth hu (by rw [nth_eq]; exact hc)
      rw [List.getElem?_map, h] at hu1
      cases hu1
      rcases hfit _ _ hc with h | ⟨h, _⟩ | h
      · exact .inr ⟨k, by rw [hc, h], by omega⟩
      · rw [h] at hu2; cases hu2
      · left
        rw [h] at hu2
        have : Value.bool true = .bool _ := hu2
        have e := (Value.bool.inj this).symm
        rw [List.any_eq_true] at e
        obtain ⟨p, hp, hd⟩ := e
        obtain ⟨i, hi, rfl⟩ := List.mem_map.1 hp
        simp only [decide_eq_true_eq] at hd
        simp only [List.map_map, List.mem_map, Function.comp]
        exact ⟨i, hi, hd⟩
  rw [← e]
  exact cellsN_ok r' L
theorem insN_pos {a : N} : ∀ {l l' : List N}, insN a l = some l' → 0 < l'.length
  | [], l', h => by cases h; simp
  | b :: r, l', h => by
    have h : ob (ltX a b) (fun l => bif l then some (a :: b :: r) else ob (ltX b a) fun l => bif l then ob (insN a r) fun r => some (b :: r) else some (b :: r)) = some l' := h
    obtain ⟨c, _, h⟩ := ob_some h
    cases c
    · simp only [cond_false] at h
      obtain ⟨d, _, h⟩ := ob_some h
      cases d
      · simp only [cond_false, Option.some.injEq] at h; subst h; simp
      · simp only [cond_true] at h
        obtain ⟨r', _, h⟩ := ob_some h
        cases h
        simp
    · simp only [cond_true, Option.some.injEq] at h
      subst h
      simp
theorem incL_pos {n : Nat} {cells l : List S} (h : incL n cells = some l) : 0 < l.length := by
  unfold incL at h
  cases he : (atomsN cells).isEmpty <;> rw [he] at h <;> simp only [cond_true, cond_false] at h
  case true => cases h
  cases hc : (Nat.beq cells.length n && fitN (atomsN cells) 0 cells && (atomsN cells).all (inN n)) <;> rw [hc] at h <;> simp only [cond_true, cond_false] at h
  case false => cases h
  obtain ⟨L, hL, h⟩ := ob_some h
  cases h
  rw [List.length_map]
  cases hX : atomsN cells with
  | nil => rw [hX] at he; cases he
  | cons i X =>
    rw [hX] at hL
    obtain ⟨m, _, hL⟩ := ob_some (show ob (insAll (X.map .x ++ truesN 0 cells)) (insN (.x i)) = some L from hL)
    exact insN_pos hL
/-- a new block that somebody else has made -/
theorem Inv.newAt {h : Heap} {r : Ren} {B : Nat} {w w1 : World} (hi : Inv h r B w) {cs : List S} {C : Array Value} {T : TypeId} {fz : Nat × Nat} {g : Nat} (hg : w.heap.size ≤ g)
    (ho : w1.os = w.os) (ht : w1.tape = w.tape) (hout : w1.output = w.output) (hold : ∀ b, b < w.heap.size → w1.heap[b]? = w.heap[b]?)
    (hnew : w1.heap[g]? = some (.cells C T fz)) (hfz : ∀ i, i ≤ C.size → (fz.1 ≤ i && i < fz.2) = false)
    (hcs : ∀ i x, nth cs i = some x → ∃ u, C[i]? = some u ∧ VS r x u) (fl : Nat) :
    Inv (h.alloc cs) (r.new h.next g C.size) B w1 ∧ Adv fl h r w (h.alloc cs) (r.new h.next g C.size) w1 := by
  have hgs : g < w1.heap.size := (Array.getElem?_eq_some_iff.1 hnew).1
  have hle := r.le_new h.next g C.size (Inv.not h hi)
  have hk := (hi.hr.keep hi.b hold).mono hle
  have hb : (r.new h.next g C.size).blk h.next = g := by simp [Ren.new]
  have hlt : ∀ l b, h.get l = some b → b.own = true → (r.new h.next g C.size).blk l < w.heap.size := fun l b hb ho => by
    obtain ⟨_, _, C', T', fz', h3, _⟩ := hi.hr.own l b hb ho
    rw [hle.blk l (hi.hr.dom l b hb)]
    exact (Array.getElem?_eq_some_iff.1 h3).1
  refine ⟨⟨fun l hl => ?_, by have := hi.b; omega, ?_⟩, ?_⟩
  · show l < h.next + 1
    rcases hl with hl | hl
    · have := hi.n l hl; omega
    · omega
  · refine ⟨fun l b hb => ?_, fun l b hb ho => ?_, fun l b hb ho => ?_, fun l b l' b' h1 o1 h2 o2 e => ?_, hk.nb, hk.z⟩
    · rw [Heap.get_alloc] at hb
      split at hb
      · rename_i e; exact .inr e
      · exact .inl (hi.hr.dom l b hb)
    · rw [Heap.get_alloc] at hb
      split at hb
      · rename_i e; subst e
        cases hb
        refine ⟨by rw [‹(r.new h.next g C.size).blk h.next = g›]; have := hi.b; omega, by simp [Ren.new], C, T, fz, by rw [‹(r.new h.next g C.size).blk h.next = g›]; exact hnew, by simp [Ren.new], hfz, fun i x hx => ?_⟩
        obtain ⟨u, hu, hv⟩ := hcs i x hx
        exact ⟨u, hu, VS.mono hle hv⟩
      · exact hk.own l b hb ho
    · rw [Heap.get_alloc] at hb
      split at hb
      · cases hb; cases ho
      · exact hk.ro l b hb ho
    · rw [Heap.get_alloc] at h1 h2
      split at h1 <;> split at h2
      · omega
      · rename_i e1 e2
        have := hlt l' b' h2 o2
        rw [← e, e1, hb] at this
        omega
      · rename_i e1 e2
        have := hlt l b h1 o1
        rw [e, e2, hb] at this
        omega
      · exact hk.inj l b l' b' h1 o1 h2 o2 e
  · refine ⟨hle, Nat.le_succ _, fun l hl => ?_, ho, ht, hout, by omega, fun b hb _ => hold b hb, fun l hl _ => ?_, fun l b' hl hb => ?_, fun l b' hl hb' => ?_⟩
    · rcases hl with hl | hl
      · exact .inl hl
      · exact .inr (Nat.le_of_eq hl.symm)
    · rw [Heap.get_alloc, if_neg (by omega)]
    · rw [Heap.get_alloc, if_neg (by omega)] at hb
      exact ⟨b', hb, rfl⟩
    · rw [Heap.get_alloc] at hb'
      split at hb'
      · rename_i e
        cases hb'
        exact ⟨rfl, .inl (by rw [e, hb]; exact hg)⟩
      · have := hi.n l (hi.hr.dom l b' hb'); omega
/-- a row of n cells that a call has made: a new block -/
theorem Post.row {h : Heap} {r : Ren} {B fl : Nat} {w w1 : World} (hi : Inv h r B w) (hb : Below w.heap.size w w1) {cs : List S} {us : List Value} {g cap z n : Nat} {C : Array Value} {T : TypeId} (hg : w.heap.size ≤ g)
    (hnew : w1.heap[g]? = some (.cells C T (0, 0))) (hz : 0 < z) (hn : n ≤ cap) (hmx : cap ≤ maxLen) (hcap : C.size = cap * z) (hus : C.toList.take us.length = us) (hcs : All2 (VS r) cs us) :
    Post B fl h r w (.a (.s (.sl h.next 0 n z none))) (h.alloc cs) (.slice (some ⟨g, 0, none⟩) n cap) w1 := by
  obtain ⟨h1, h2⟩ := hi.newAt (w1 := w1) (cs := cs) hg hb.os hb.tape hb.output hb.block hnew (fun i _ => by simp) (fun i x hx => by
    obtain ⟨u, hu, hv⟩ := All2.nth hcs hx
    refine ⟨u, ?_, hv⟩
    rw [← hus, List.getElem?_take] at hu
    split at hu
    · rw [← Array.getElem?_toList]; exact hu
    · cases hu) fl
  refine ⟨_, h1, ?_, h2⟩
  rw [hcap]
  exact sl_new' r h.next g n z cap hz hn hmx
end
end Go.Proofs.YtaamdiknefodgaaDoor.Am
