/- What the abstract machine's values and memory stand for. (No program in sight.) -/
import Derived.Test.YtaamdiknefodgaaDoorAmTy
namespace Go.Proofs.YtaamdiknefodgaaDoor.Am
set_option linter.unusedSectionVars false

def All2 {α β : Type} (R : α → β → Prop) : List α → List β → Prop
  | [], [] => True
  | x :: xs, y :: ys => R x y ∧ All2 R xs ys
  | _, _ => False
section
variable {α β : Type} {R R' : α → β → Prop}
theorem All2.len : ∀ {xs : List α} {ys : List β}, All2 R xs ys → xs.length = ys.length
  | [], [], _ => rfl
  | _ :: _, _ :: _, h => by simp [All2.len h.2]
  | [], _ :: _, h => h.elim
  | _ :: _, [], h => h.elim
theorem All2.imp (f : ∀ x y, R x y → R' x y) : ∀ {xs : List α} {ys : List β}, All2 R xs ys → All2 R' xs ys
  | [], [], _ => trivial
  | _ :: _, _ :: _, h => ⟨f _ _ h.1, All2.imp f h.2⟩
  | [], _ :: _, h => h.elim
  | _ :: _, [], h => h.elim
theorem All2.app : ∀ {xs xs' : List α} {ys ys' : List β}, All2 R xs ys → All2 R xs' ys' → All2 R (xs ++ xs') (ys ++ ys')
  | [], _, [], _, _, k => k
  | _ :: _, _, _ :: _, _, h, k => ⟨h.1, All2.app h.2 k⟩
  | [], _, _ :: _, _, h, _ => h.elim
  | _ :: _, _, [], _, h, _ => h.elim
theorem All2.drop : ∀ (n : Nat) {xs : List α} {ys : List β}, All2 R xs ys → All2 R (xs.drop n) (ys.drop n)
  | 0, _, _, h => h
  | _ + 1, [], [], h => h
  | n + 1, _ :: _, _ :: _, h => by simpa using All2.drop n h.2
  | _ + 1, [], _ :: _, h => h.elim
  | _ + 1, _ :: _, [], h => h.elim
theorem All2.take : ∀ (n : Nat) {xs : List α} {ys : List β}, All2 R xs ys → All2 R (xs.take n) (ys.take n)
  | 0, _, _, _ => by simp [All2]
  | _ + 1, [], [], h => h
  | n + 1, _ :: _, _ :: _, h => by simp only [List.take_succ_cons]; exact ⟨h.1, All2.take n h.2⟩
  | _ + 1, [], _ :: _, h => h.elim
  | _ + 1, _ :: _, [], h => h.elim
theorem nth_cons_zero (x : α) (t : List α) : nth (x :: t) 0 = some x := rfl
theorem nth_cons_succ (x : α) (t : List α) (n : Nat) : nth (x :: t) (n + 1) = nth t n := rfl
theorem nth_nil (n : Nat) : nth ([] : List α) n = none := rfl
theorem nth_eq : ∀ (l : List α) (n : Nat), nth l n = l[n]?
  | [], _ => by simp [nth_nil]
  | x :: t, 0 => by simp [nth_cons_zero]
  | x :: t, n + 1 => by simp [nth_cons_succ, nth_eq t n]
theorem upd_cons_zero (x y : α) (t : List α) : upd (x :: t) 0 y = y :: t := rfl
theorem upd_cons_succ (x y : α) (t : List α) (n : Nat) : upd (x :: t) (n + 1) y = x :: upd t n y := rfl
theorem upd_nil (n : Nat) (y : α) : upd ([] : List α) n y = [] := rfl
theorem upd_eq : ∀ (l : List α) (n : Nat) (y : α), upd l n y = l.set n y
  | [], _, _ => by simp [upd_nil]
  | x :: t, 0, _ => by simp [upd_cons_zero]
  | x :: t, n + 1, _ => by simp [upd_cons_succ, upd_eq t n]
theorem All2.nth : ∀ {xs : List α} {ys : List β} {n : Nat} {x : α}, All2 R xs ys → nth xs n = some x → ∃ y, ys[n]? = some y ∧ R x y
  | [], _, _, _, _, h => by simp [nth_nil] at h
  | _ :: _, [], _, _, h, _ => h.elim
  | a :: t, b :: u, 0, x, h, k => by simp [nth_cons_zero] at k; subst k; exact ⟨b, rfl, h.1⟩
  | a :: t, b :: u, n + 1, x, h, k => by rw [nth_cons_succ] at k; simpa using All2.nth h.2 k
theorem All2.set : ∀ {xs : List α} {ys : List β} (n : Nat) {x : α} {y : β}, All2 R xs ys → R x y → All2 R (xs.set n x) (ys.set n y)
  | [], [], _, _, _, h, _ => by simpa using h
  | _ :: _, [], _, _, _, h, _ => h.elim
  | [], _ :: _, _, _, _, h, _ => h.elim
  | a :: t, b :: u, 0, x, y, h, k => ⟨k, h.2⟩
  | a :: t, b :: u, n + 1, x, y, h, k => ⟨h.1, All2.set n h.2 k⟩
theorem taken_eq : ∀ (l : List α) (n : Nat) (r : List α), taken l n = some r → n ≤ l.length ∧ r = l.take n
  | [], 0, r, h => by cases h; simp
  | [], n + 1, r, h => by cases h
  | x :: t, 0, r, h => by cases h; simp
  | x :: t, n + 1, r, h => by
    have h' : (Option.rec none (fun r => some (x :: r)) (taken t n) : Option (List α)) = some r := h
    cases hk : taken t n with
    | none => rw [hk] at h'; simp at h'
    | some q =>
      rw [hk] at h'
      simp at h'
      obtain ⟨h1, rfl⟩ := taken_eq t n q hk
      subst h'
      simp [h1]
theorem ext_eq {l : List α} {o n : Nat} {r : List α} (h : ext l o n = some r) : (n = 0 ∨ o + n ≤ l.length) ∧ r = (l.drop o).take n := by
  obtain ⟨h1, h2⟩ := taken_eq _ _ _ h
  refine ⟨?_, h2⟩
  simp at h1
  omega
theorem over_eq : ∀ (l ys r : List α), over l ys = some r → ys.length ≤ l.length ∧ r = ys ++ l.drop ys.length
  | [], [], r, h => by cases h; simp
  | [], y :: ys, r, h => by cases h
  | x :: t, [], r, h => by cases h; simp
  | x :: t, y :: ys, r, h => by
    have h' : (Option.rec none (fun r => some (y :: r)) (over t ys) : Option (List α)) = some r := h
    cases hk : over t ys with
    | none => rw [hk] at h'; simp at h'
    | some q =>
      rw [hk] at h'
      simp at h'
      obtain ⟨h1, rfl⟩ := over_eq t ys q hk
      subst h'
      simp [h1]
theorem lay_eq {l : List α} {o : Nat} {ys r : List α} (h : lay l o ys = some r) : (ys = [] ∨ o + ys.length ≤ l.length) ∧ r = l.take o ++ (ys ++ l.drop (o + ys.length)) := by
  have h' : (Option.rec none (fun r => some (l.take o ++ r)) (over (l.drop o) ys) : Option (List α)) = some r := h
  cases hk : over (l.drop o) ys with
  | none => rw [hk] at h'; simp at h'
  | some q =>
    rw [hk] at h'
    simp at h'
    obtain ⟨h1, rfl⟩ := over_eq _ _ _ hk
    subst h'
    simp at h1
    refine ⟨?_, by simp [List.drop_drop]⟩
    cases ys with
    | nil => exact .inl rfl
    | cons y ys => right; simp at h1 ⊢; omega
theorem mapO_nil (f : α → Option β) : mapO f [] = some [] := rfl
theorem mapO_cons (f : α → Option β) (x : α) (t : List α) : mapO f (x :: t) = ob (f x) fun y => ob (mapO f t) fun r => some (y :: r) := rfl
theorem ob_some {x : Option α} {f : α → Option β} {y : β} (h : ob x f = some y) : ∃ a, x = some a ∧ f a = some y := by
  cases x with
  | none => simp [ob] at h
  | some a => exact ⟨a, rfl, h⟩
@[simp] theorem ob_none' (f : α → Option β) : ob none f = none := rfl
@[simp] theorem ob_some' (a : α) (f : α → Option β) : ob (some a) f = f a := rfl
theorem mapO_all {f : α → Option β} : ∀ {xs : List α} {ys : List β}, mapO f xs = some ys → All2 (fun x y => f x = some y) xs ys
  | [], ys, h => by simp [mapO_nil] at h; subst h; trivial
  | x :: t, ys, h => by
    rw [mapO_cons] at h
    obtain ⟨y, hy, h⟩ := ob_some h
    obtain ⟨r, hr, h⟩ := ob_some h
    simp at h
    subst h
    exact ⟨hy, mapO_all hr⟩
end

/-- the first blocks of memory, which nobody writes -/
def strX (sig : Nat → List UInt8) : List Nat → List UInt8
  | [] => []
  | n :: r => (bif Nat.blt n 256 then [UInt8.ofNat n] else sig (n - 256)) ++ strX sig r
def nI (rho : Nat → Int) (a : N) : Int := match a with | .c n => n | .x i => rho i
/-- a string from a to b, or to its end, is m -/
def CutOk (l : List UInt8) (a : Int) (b : Option Int) (m : List UInt8) : Prop :=
  ∃ p q : Nat, a = p ∧ (match b with | some e => e = q | none => q = l.length) ∧ p ≤ q ∧ q ≤ l.length ∧ (l.take q).drop p = m
/-- what is said to be known is so -/
structure KnowOk (K : Know) (rho : Nat → Int) (sig : Nat → List UInt8) : Prop where
  iv : ∀ i p, nth K.iv i = some p → p.1 ≤ rho i ∧ rho i ≤ p.2
  ne : ∀ i j, hasPair K.ne i j = true → rho i ≠ rho j
  lt : ∀ i j, hasPair K.lt i j = true → rho i < rho j
  mx : ∀ i m, nth K.mx i = some m → (sig i).length ≤ m
  sq : ∀ a b r, (a, b, r) ∈ K.sq → decide (strX sig a = strX sig b) = r
  ln : ∀ a j, (a, j) ∈ K.ln → rho j = (strX sig a).length
  cf : ∀ m, m ∈ K.cf → (m.all fun p => decide (rho p.1 = p.2)) = false
  df : ∀ i j d, (i, j, d) ∈ K.df → (rho i = rho j ↔ rho d = 0)
  sx : ∀ a b l, (a, b, l) ∈ K.sx → decide (strX sig a = strX sig b) = l.all fun p => decide (rho p.1 = p.2)
  ct : ∀ l a b m, (l, a, b, m) ∈ K.ct → CutOk (strX sig l) (nI rho a) (b.map (nI rho)) (strX sig m)
  sb : ∀ i j k, (i, j, k) ∈ K.sb → rho i - rho j = rho k ∧ IntKind.i64.min ≤ rho k ∧ rho k ≤ IntKind.i64.max
  ad : ∀ i c k, (i, c, k) ∈ K.ad → rho i + c = rho k ∧ IntKind.i64.min ≤ rho k ∧ rho k ≤ IntKind.i64.max
theorem KnowOk.nought (rho : Nat → Int) (sig : Nat → List UInt8) : KnowOk Know.nought rho sig :=
  ⟨fun i p h => (by cases h), fun i j h => (by cases h), fun i j h => (by cases h), fun i m h => (by cases h), fun a b r h => (by cases h), fun a j h => (by cases h), fun m h => (by cases h), fun _ _ _ h => (by cases h), fun _ _ _ h => (by cases h), fun _ _ _ _ h => (by cases h), fun _ _ _ h => (by cases h), fun _ _ _ h => (by cases h)⟩
/-- a list: the slice, the cells of each element -/
structure RowV where
  v : Value
  els : List (List Value)
class Base extends Know where
  nb : Nat
  g : Nat → Option Obj
  rho : Nat → Int
  sig : Nat → List UInt8
  ok : KnowOk toKnow rho sig
  lst : Nat → RowV := fun _ => ⟨.pointer none, []⟩
variable [Base]
def NV (a : N) : Int := match a with | .c n => n | .x i => Base.rho i
/-- memory whose first blocks are these -/
def Here (w : World) : Prop := ∀ b, b < Base.nb → w.heap[b]? = Base.g b
/-- an element of a list, from this address on -/
def ElAt (k : Nat) (i : N) (b off : Nat) (el : List Value) : Prop :=
  (Base.lst k).els[(NV i).toNat]? = some el ∧ ∀ f u, el[f]? = some u → ∀ w : World, Here w → w.cell? ⟨b, off + f, none⟩ = some u

/-- where the machine's blocks lie -/
structure Ren where
  ok : Nat → Prop
  blk : Nat → Nat
  off : Nat → Nat
  cap : Nat → Nat
structure Ren.le (r r' : Ren) : Prop where
  n : ∀ l, r.ok l → r'.ok l
  blk : ∀ l, r.ok l → r'.blk l = r.blk l
  off : ∀ l, r.ok l → r'.off l = r.off l
  cap : ∀ l, r.ok l → r'.cap l = r.cap l
theorem Ren.le.refl (r : Ren) : r.le r := ⟨fun _ h => h, fun _ _ => rfl, fun _ _ => rfl, fun _ _ => rfl⟩
theorem Ren.le.trans {a b c : Ren} (h : a.le b) (k : b.le c) : a.le c :=
  ⟨fun l hl => k.n l (h.n l hl), fun l hl => (k.blk l (h.n l hl)).trans (h.blk l hl), fun l hl => (k.off l (h.n l hl)).trans (h.off l hl), fun l hl => (k.cap l (h.n l hl)).trans (h.cap l hl)⟩

def Ren.at (r : Ren) (l o : Nat) : Addr := ⟨r.blk l, r.off l + o, none⟩
theorem Ren.le.at {r r' : Ren} (h : r.le r') {l : Nat} (hl : r.ok l) (o : Nat) : r'.at l o = r.at l o := by simp [Ren.at, h.blk l hl, h.off l hl]

def VS (r : Ren) (x : S) (v : Value) : Prop :=
  match x with
  | .bool b => v = .bool b
  | .int k n => v = .int k n
  | .str s => v = .string ⟨s.toArray⟩
  | .ptr l o => r.ok l ∧ v = .pointer (some (r.at l o))
  | .nilp => v = .pointer none
  | .sl l o n z none => r.ok l ∧ (0 < z ∧ (r.cap l - o) / z ≤ maxLen) ∧ n ≤ (r.cap l - o) / z ∧ v = .slice (some (r.at l o)) n ((r.cap l - o) / z)
  | .sl l o n z (some c) => r.ok l ∧ 0 < z ∧ n ≤ c ∧ v = .slice (some (r.at l o)) n c
  | .sle => ∃ a c, v = .slice (some a) 0 c
  | .nils => v = .slice none 0 0
  | .fn f cs => (∀ p ∈ cs, r.ok p.1) ∧ v = .func (.func f) #[] (cs.map fun p => .pointer (some (r.at p.1 p.2))).toArray
  | .nili => v = .nilIface
  | .xi k i => v = .int k (Base.rho i)
  | .xs l => v = .string ⟨(strX Base.sig l).toArray⟩
  | .xe l => v = .bool (l.any fun p => decide (Base.rho p.1 = p.2))
  | .xa l b => v = .bool ((l.all fun p => decide (Base.rho p.1 = p.2)) == b)
  | .px l o n i => r.ok l ∧ 0 ≤ Base.rho i ∧ Base.rho i < n ∧ v = .pointer (some (r.at l (o + (Base.rho i).toNat)))
  | .ifc => ∃ t x, v = .iface t x
  | .rv k => ∃ A n c, (Base.lst k).v = .slice A n c ∧ v = .slice A n c
  | .pe k i o => ∃ b off el, ElAt k i b off el ∧ v = .pointer (some ⟨b, off + o, none⟩)
  | .top => v.oneCell' = true
def VA (r : Ren) (x : A) (v : Value) : Prop :=
  match x with
  | .s x => VS r x v
  | .g l => ∃ vs : List Value, v = .agg vs.toArray ∧ All2 (VS r) l vs
def VV (r : Ren) (x : V) (v : Value) : Prop :=
  match x with
  | .a x => VA r x v
  | .t l => ∃ vs : List Value, v = .tuple vs.toArray ∧ All2 (VA r) l vs
  | .any => True

theorem VS.mono {r r' : Ren} (h : r.le r') {x : S} {v : Value} (k : VS r x v) : VS r' x v := by
  cases x with
  | ptr l o => exact ⟨h.n _ k.1, by rw [h.at k.1]; exact k.2⟩
  | sl l o n z c =>
    cases c with
    | none => exact ⟨h.n _ k.1, ⟨k.2.1.1, by rw [h.cap l k.1]; exact k.2.1.2⟩, by rw [h.cap l k.1]; exact k.2.2.1, by rw [h.cap l k.1, h.at k.1]; exact k.2.2.2⟩
    | some c => exact ⟨h.n _ k.1, k.2.1, k.2.2.1, by rw [h.at k.1]; exact k.2.2.2⟩
  | px l o n i => exact ⟨h.n _ k.1, k.2.1, k.2.2.1, by rw [h.at k.1]; exact k.2.2.2⟩
  | fn f cs =>
    refine ⟨fun p hp => h.n _ (k.1 p hp), ?_⟩
    rw [k.2]
    congr 2
    exact List.map_congr_left fun p hp => by rw [h.at (k.1 p hp)]
  | _ => exact k
theorem VA.mono {r r' : Ren} (h : r.le r') {x : A} {v : Value} (k : VA r x v) : VA r' x v := by
  cases x with
  | s x => exact VS.mono h k
  | g l => obtain ⟨vs, e, a⟩ := k; exact ⟨vs, e, a.imp fun _ _ => VS.mono h⟩
theorem VV.mono {r r' : Ren} (h : r.le r') {x : V} {v : Value} (k : VV r x v) : VV r' x v := by
  cases x with
  | a x => exact VA.mono h k
  | t l => obtain ⟨vs, e, a⟩ := k; exact ⟨vs, e, a.imp fun _ _ => VA.mono h⟩
  | any => trivial
theorem VS.one {r : Ren} {x : S} {v : Value} (k : VS r x v) : v.oneCell' = true := by
  cases x with
  | ptr l o => rw [k.2]; rfl
  | sl l o n z c => cases c with
    | none => rw [k.2.2.2]; rfl
    | some c => rw [k.2.2.2]; rfl
  | fn f cs => rw [k.2]; rfl
  | px l o n i => rw [k.2.2.2]; rfl
  | sle => obtain ⟨a, c, e⟩ := k; rw [e]; rfl
  | ifc => obtain ⟨a, c, e⟩ := k; rw [e]; rfl
  | rv j => obtain ⟨A, n, c, _, e⟩ := k; rw [e]; rfl
  | pe j i o => obtain ⟨b, off, el, _, e⟩ := k; rw [e]; rfl
  | top => exact k
  | _ => cases k; rfl
theorem VA.cells {r : Ren} {x : A} {v : Value} (k : VA r x v) : All2 (VS r) x.cells v.cells.toList := by
  cases x with
  | s x =>
    have h1 := VS.one k
    have : v.cells = #[v] := by cases v <;> simp_all [Value.cells, Value.oneCell']
    rw [this]
    exact ⟨k, trivial⟩
  | g l => obtain ⟨vs, e, a⟩ := k; subst e; simpa [Value.cells, A.cells] using a
theorem VS.undef {r : Ren} : VV r undef Go.undef := ⟨[], rfl, trivial⟩

/-- memory: what the machine has, the model has, in blocks of its own from B on -/
structure HR (m : Nat → Option Blk) (r : Ren) (B : Nat) (w : World) : Prop where
  dom : ∀ l b, m l = some b → r.ok l
  own : ∀ l b, m l = some b → b.own = true → B ≤ r.blk l ∧ r.off l = 0 ∧ ∃ C T fz, w.heap[r.blk l]? = some (.cells C T fz) ∧ C.size = r.cap l ∧
    (∀ i, i ≤ C.size → (fz.1 ≤ i && i < fz.2) = false) ∧ ∀ i x, nth b.cells i = some x → ∃ u, C[i]? = some u ∧ VS r x u
  ro : ∀ l b, m l = some b → b.own = false → r.blk l < B ∧ ∀ i x, nth b.cells i = some x → ∃ u, w.cell? (r.at l i) = some u ∧ VS r x u
  inj : ∀ l b l' b', m l = some b → b.own = true → m l' = some b' → b'.own = true → r.blk l = r.blk l' → l = l'
  nb : Base.nb ≤ B
  z : ∀ b, b < Base.nb → w.heap[b]? = Base.g b

/-- what a cell of a block reads -/
theorem HR.cell {m : Nat → Option Blk} {r : Ren} {B : Nat} {w : World} (h : HR m r B w) {l : Nat} {b : Blk} (hb : m l = some b) {i : Nat} {x : S} (hx : nth b.cells i = some x) : ∃ u, w.cell? (r.at l i) = some u ∧ VS r x u := by
  cases ho : b.own with
  | false => exact (h.ro l b hb ho).2 i x hx
  | true =>
    obtain ⟨_, hz, C, T, fz, hc, _, _, hv⟩ := h.own l b hb ho
    obtain ⟨u, hu, hxu⟩ := hv i x hx
    exact ⟨u, by simp [Ren.at, World.cell?, hc, hz, hu], hxu⟩

/-- how a world goes on -/
structure Adv (fl : Nat) (h : Heap) (r : Ren) (w : World) (h' : Heap) (r' : Ren) (w' : World) : Prop where
  le : r.le r'
  nn : h.next ≤ h'.next
  okn : ∀ l, r'.ok l → r.ok l ∨ h.next ≤ l
  os : w'.os = w.os
  tape : w'.tape = w.tape
  output : w'.output = w.output
  size : w.heap.size ≤ w'.heap.size
  frame : ∀ b, b < w.heap.size → (∀ l k, h.get l = some k → k.own = true → fl ≤ l → r.blk l ≠ b) → w'.heap[b]? = w.heap[b]?
  keep : ∀ l, l < h.next → l < fl → h'.get l = h.get l
  old : ∀ l b', l < h.next → h'.get l = some b' → ∃ b, h.get l = some b ∧ b.own = b'.own
  fresh : ∀ l b', h.next ≤ l → h'.get l = some b' → b'.own = true ∧ (w.heap.size ≤ r'.blk l ∨ ∃ l0 b0, h.get l0 = some b0 ∧ b0.own = true ∧ fl ≤ l0 ∧ r'.blk l = r.blk l0)

/-- the machine's memory and the model's -/
structure Inv (h : Heap) (r : Ren) (B : Nat) (w : World) : Prop where
  n : ∀ l, r.ok l → l < h.next
  b : B ≤ w.heap.size
  hr : HR h.get r B w

theorem Adv.refl (fl : Nat) {h : Heap} {r : Ren} {B : Nat} {w : World} (i : Inv h r B w) : Adv fl h r w h r w :=
  ⟨Ren.le.refl r, Nat.le_refl _, fun _ h => .inl h, rfl, rfl, rfl, Nat.le_refl _, fun _ _ _ => rfl, fun _ _ _ => rfl, fun _ b' _ h => ⟨b', h, rfl⟩, fun l b' hl hb => absurd (i.n l (i.hr.dom l b' hb)) (Nat.not_lt.2 hl)⟩
theorem Adv.trans {fl B : Nat} {m m' m'' : Heap} {r r' r'' : Ren} {w w' w'' : World} (i : Inv m r B w) (i' : Inv m' r' B w') (h : Adv fl m r w m' r' w') (k : Adv fl m' r' w' m'' r'' w'') : Adv fl m r w m'' r'' w'' where
  le := h.le.trans k.le
  nn := Nat.le_trans h.nn k.nn
  okn l hl := by
    rcases k.okn l hl with g | g
    · exact h.okn l g
    · exact .inr (Nat.le_trans h.nn g)
  os := k.os.trans h.os
  tape := k.tape.trans h.tape
  output := k.output.trans h.output
  size := Nat.le_trans h.size k.size
  frame b hb hno := by
    rw [k.frame b (Nat.lt_of_lt_of_le hb h.size) ?_, h.frame b hb hno]
    intro l c hc ho hfl he
    by_cases hl : l < m.next
    · obtain ⟨c', hc', ho'⟩ := h.old l c hl hc
      rw [h.le.blk l (i.hr.dom l c' hc')] at he
      exact hno l c' hc' (ho'.trans ho) hfl he
    · rcases (h.fresh l c (Nat.le_of_not_lt hl) hc).2 with hs | ⟨l0, b0, h0, o0, f0, e0⟩
      · omega
      · exact hno l0 b0 h0 o0 f0 (e0.symm.trans he)
  keep l hl hfl := by rw [k.keep l (Nat.lt_of_lt_of_le hl h.nn) hfl, h.keep l hl hfl]
  old l b' hl hb := by
    obtain ⟨c, hc, oc⟩ := k.old l b' (Nat.lt_of_lt_of_le hl h.nn) hb
    obtain ⟨d, hd, od⟩ := h.old l c hl hc
    exact ⟨d, hd, od.trans oc⟩
  fresh l b' hl hb := by
    by_cases hl' : l < m'.next
    · obtain ⟨c, hc, oc⟩ := k.old l b' hl' hb
      rw [k.le.blk l (i'.hr.dom l c hc), ← oc]
      exact h.fresh l c hl hc
    · obtain ⟨ho, hh⟩ := k.fresh l b' (Nat.le_of_not_lt hl') hb
      refine ⟨ho, ?_⟩
      rcases hh with hs | ⟨l0, b0, h0, o0, f0, e0⟩
      · exact .inl (Nat.le_trans h.size hs)
      · by_cases h00 : l0 < m.next
        · obtain ⟨c, hc, oc⟩ := h.old l0 b0 h00 h0
          exact .inr ⟨l0, c, hc, oc.trans o0, f0, by rw [e0, h.le.blk l0 (i.hr.dom l0 c hc)]⟩
        · rcases (h.fresh l0 b0 (Nat.le_of_not_lt h00) h0).2 with hs | ⟨l1, b1, h1, o1, f1, e1⟩
          · exact .inl (by rw [e0]; exact hs)
          · exact .inr ⟨l1, b1, h1, o1, f1, by rw [e0, e1]⟩
end Go.Proofs.YtaamdiknefodgaaDoor.Am
