/- Arguments without references: structs of numbers and truth values, opened; what is known of them. (No program in sight.) -/
import Derived.Test.YtaamdiknefodgaaDoorAmLib
import Derived.ChangeShapes
import Derived.WideShapes
import Derived.Below
namespace Go.Proofs.YtaamdiknefodgaaDoor.Am
open Go.RowKit Go.ChangeShapes Go.WideShapes
set_option linter.unusedSectionVars false

/-- kinds of one cell -/
inductive Kd where
  | b
  | i (k : IntKind)
  | s
def Kd.ok (kd : Kd) (v : Value) : Prop :=
  match kd with
  | .b => ∃ x : Bool, v = .bool x
  | .i k => ∃ n : Int, v = .int k n ∧ k.min ≤ n ∧ n ≤ k.max
  | .s => ∃ s : ByteArray, v = .string s ∧ (s.size : Int) ≤ IntKind.i64.max
def kdOf (P : Program) (t : TypeId) : Option Kd :=
  match P.underlying t with
  | some .bool => some .b
  | some (.int k) => some (.i k)
  | some .string => some .s
  | _ => none
theorem kd_ok {P : Program} {w : World} {r : Reach} {b : Nat} {t : TypeId} {v : Value} {kd : Kd} (hk : kdOf P t = some kd) (h : Cell.okWide P w r b t v) : kd.ok v := by
  unfold kdOf at hk
  split at hk <;> cases hk <;> rename_i hu <;> simp only [Cell.okWide, hu, Cell.ok] at h
  · cases v <;> simp at h
    exact ⟨_, rfl⟩
  · cases v <;> simp at h
    obtain ⟨rfl, h⟩ := h
    simp only [IntKind.has] at h
    exact ⟨_, rfl, h.1, h.2⟩
  · cases v <;> simp at h
    exact ⟨_, rfl, by simpa using h⟩
theorem mapO_nth {α β : Type} {f : α → Option β} : ∀ {l : List α} {r : List β}, mapO f l = some r → l.length = r.length ∧ ∀ (i : Nat) (a : α) (b : β), l[i]? = some a → r[i]? = some b → f a = some b
  | [], r, h => by cases h; exact ⟨rfl, fun i a b h => by simp at h⟩
  | x :: l, r, h => by
    rw [mapO_cons] at h
    obtain ⟨y, hy, h⟩ := ob_some h
    obtain ⟨r', hr, h⟩ := ob_some h
    cases h
    obtain ⟨h1, h2⟩ := mapO_nth hr
    refine ⟨by simp [h1], fun i a b ha hb => ?_⟩
    cases i with
    | zero => simp at ha hb; rw [← ha, ← hb]; exact hy
    | succ i => exact h2 i a b (by simpa using ha) (by simpa using hb)
theorem all2_by_nth {α β : Type} {R : α → β → Prop} : ∀ {l : List α} {r : List β}, l.length = r.length → (∀ (i : Nat) (a : α) (b : β), l[i]? = some a → r[i]? = some b → R a b) → All2 R l r
  | [], [], _, _ => trivial
  | x :: l, y :: r, hl, h => ⟨h 0 x y rfl rfl, all2_by_nth (by simpa using hl) fun i a b ha hb => h (i + 1) a b (by simpa using ha) (by simpa using hb)⟩
  | [], _ :: _, hl, _ => by simp at hl
  | _ :: _, [], hl, _ => by simp at hl
/-- a struct argument, by its cells -/
theorem open_flat {P : Program} {w : World} {r : Reach} {b : Nat} {t : TypeId} {v : Value} {fs : Array Field} {ts : List TypeId} {kds : List Kd} (hu : P.underlying t = some (.struct fs)) (hts : P.cellTypes P.depth t = some ts) (hsz : P.cellsOf t = ts.length)
    (hk : mapO (kdOf P) ts = some kds) (h : Value.okWide P w r b t v) : ∃ us : List Value, v = .agg us.toArray ∧ All2 Kd.ok kds us := by
  simp only [Value.okWide, hu] at h
  obtain ⟨cs, rfl, h1, ts', h2, h3, h4⟩ := h
  rw [hts] at h2
  cases h2
  obtain ⟨hl, hk⟩ := mapO_nth hk
  refine ⟨cs.toList, rfl, all2_by_nth (by simp; omega) fun i a v ha hv => ?_⟩
  have hv' : cs[i]? = some v := by rw [← Array.getElem?_toList]; exact hv
  obtain ⟨u, hu1, hu2⟩ := h4 i v hv'
  have hi : i < ts.length := by
    have := (Array.getElem?_eq_some_iff.1 hv').1
    omega
  rw [Nat.mod_eq_of_lt hi] at hu1
  exact kd_ok (hk i u a hu1 ha) hu2

/-! what is known -/
theorem hasPair_mem {i j : Nat} : ∀ {l : List (Nat × Nat)}, hasPair l i j = true → (i, j) ∈ l
  | [], h => by cases h
  | (p, q) :: t, h => by
    have h : ((Nat.beq p i && Nat.beq q j) || hasPair t i j) = true := h
    simp only [Bool.or_eq_true, Bool.and_eq_true] at h
    rcases h with ⟨h1, h2⟩ | h
    · rw [Nat.eq_of_beq_eq_true h1, Nat.eq_of_beq_eq_true h2]; simp
    · simp [hasPair_mem h]
noncomputable def valI (l : List Int) : Nat → Int := fun i => (nth l i).getD 0
noncomputable def valS (l : List (List UInt8)) : Nat → List UInt8 := fun i => (nth l i).getD []
/-- a law's answer, at each of its cases -/
theorem all_get {α : Type} {f : α → Bool} {l : List α} (h : l.all f = true) {x : α} (hx : x ∈ l) : f x = true := List.all_eq_true.1 h x hx

/-- whoever always answers so -/
noncomputable def sayO (f0 : FuncId) (v : V) : Oracle := pureO f0 fun args => match args with | [] => some v | _ => none
theorem sound_say [Base] {P : Program} {f0 : FuncId} {b : Bool} (hc : Callable P f0) (h : Holds0 fun w => Calls P f0 #[] w fun e w' => e = .returned (.bool b) ∧ Below w.heap.size w w') : Sound P (sayO f0 (V.s (.bool b))) := by
  refine sound_pure hc fun args v hg r vs ha w hw => ?_
  split at hg
  · cases hg
    cases vs with
    | nil => exact (h w hw).mono fun e w' ⟨e1, e2⟩ => ⟨_, e1, rfl, e2⟩
    | cons _ _ => exact ha.elim
  · cases hg
end Go.Proofs.YtaamdiknefodgaaDoor.Am
