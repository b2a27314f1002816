/- A table of calls with references that only look. (No program in sight.) -/
import Derived.Test.YtaamdiknefodgaaDoorAmLeaf
namespace Go.Proofs.YtaamdiknefodgaaDoor.Am
set_option linter.unusedSectionVars false
set_option linter.unusedVariables false
noncomputable section

def optEq : Option Nat → Option Nat → Bool
  | none, none => true
  | some a, some b => Nat.beq a b
  | _, _ => false
def S.eqv (x y : S) : Bool :=
  match x, y with
  | .ptr l o, .ptr l' o' => Nat.beq l l' && Nat.beq o o'
  | .sl l o n z c, .sl l' o' n' z' c' => Nat.beq l l' && Nat.beq o o' && Nat.beq n n' && Nat.beq z z' && optEq c c'
  | .sle, .sle => true
  | .xe l, .xe m => sameE l m
  | x, y => x.same y
def A.eqv (x y : A) : Bool := match x, y with | .s x, .s y => x.eqv y | .g l, .g m => sameL S.eqv l m | _, _ => false
def V.same (x y : V) : Bool := match x, y with | .a x, .a y => x.same y | .t l, .t m => sameL A.same l m | _, _ => false
def blkEq (b c : Blk) : Bool := (bif b.own then c.own else !c.own) && sameL S.eqv b.cells c.cells
/-- a call, the memory that it looks at, what it comes to -/
structure RRow where
  f : FuncId
  args : List A
  m : Hp
  v : V
def subHp (m h : Hp) : Bool := m.all fun p => Option.rec false (fun b => blkEq p.2 b) (Hp.get h p.1)
def findR (N : Nat) (f : FuncId) (args : List A) (h : Heap) : List RRow → Option V
  | [] => none
  | r :: t => bif Nat.beq r.f f && sameL A.eqv r.args args && subHp r.m h.m && Nat.ble h.next N then some r.v else findR N f args h t
def rrowO (N : Nat) (T : List RRow) : Oracle := fun f args h _ => ob (findR N f args h T) fun v => some (v, h)
def sayV (v : V) (r : R) : Bool := Option.rec false (fun p => V.same p.1 v) r
def rrowOk (O : Oracle) (N : Nat) (r : RRow) : Bool := r.v.flat && sayV r.v (O r.f r.args ⟨r.m, N⟩ N)
variable [Base]
theorem S.eqv_ok {x y : S} (h : x.eqv y = true) : x = y := by
  unfold S.eqv at h
  split at h
  · simp only [Bool.and_eq_true] at h
    rw [Nat.eq_of_beq_eq_true h.1, Nat.eq_of_beq_eq_true h.2]
  · simp only [Bool.and_eq_true] at h
    obtain ⟨⟨⟨⟨h1, h2⟩, h3⟩, h4⟩, h5⟩ := h
    rw [Nat.eq_of_beq_eq_true h1, Nat.eq_of_beq_eq_true h2, Nat.eq_of_beq_eq_true h3, Nat.eq_of_beq_eq_true h4]
    congr 1
    unfold optEq at h5
    split at h5
    · rfl
    · rw [Nat.eq_of_beq_eq_true h5]
    · cases h5
  · rfl
  · rw [sameE_eq h]
  · exact (S.same_ok h).1
theorem sameL_eq {α : Type} {f : α → α → Bool} (hf : ∀ x y, f x y = true → x = y) {l m : List α} (h : sameL f l m = true) : l = m :=
  (sameL_ok (g := fun _ => true) (fun x y e => ⟨hf x y e, rfl⟩) h).1
theorem A.eqv_ok {x y : A} (h : x.eqv y = true) : x = y := by
  unfold A.eqv at h
  split at h
  · rw [S.eqv_ok h]
  · rw [sameL_eq (fun _ _ => S.eqv_ok) h]
  · cases h
theorem V.same_ok {x y : V} (h : V.same x y = true) : x = y := by
  unfold V.same at h
  split at h
  · rw [(A.same_ok h).1]
  · rw [sameL_eq (fun _ _ h => (A.same_ok h).1) h]
  · cases h
theorem blkEq_ok {b c : Blk} (h : blkEq b c = true) : b = c := by
  unfold blkEq at h
  simp only [Bool.and_eq_true] at h
  obtain ⟨h1, h2⟩ := h
  have := sameL_eq (fun _ _ => S.eqv_ok) h2
  cases b with
  | mk bc bo => cases c with
    | mk cc co =>
      simp only at this h1
      subst this
      cases bo <;> cases co <;> simp at h1 <;> rfl
theorem hp_mem : ∀ {m : Hp} {l : Nat} {b : Blk}, Hp.get m l = some b → (l, b) ∈ m
  | [], _, _, h => by cases h
  | p :: m, l, b, h => by
    rw [Hp.get_cons] at h
    cases e : (p.1 == l) <;> rw [e] at h <;> simp only [cond_true, cond_false] at h
    · exact List.mem_cons_of_mem _ (hp_mem h)
    · cases h
      have e' : p.1 = l := by simpa using e
      rw [← e']
      exact List.mem_cons_self ..
theorem subHp_ok {m h : Hp} (k : subHp m h = true) {l : Nat} {b : Blk} (hb : Hp.get m l = some b) : Hp.get h l = some b := by
  have := List.all_eq_true.1 k _ (hp_mem hb)
  cases hg : Hp.get h l with
  | none => simp only [hg] at this; cases this
  | some c =>
    simp only [hg] at this
    rw [blkEq_ok this]
theorem findR_ok {N : Nat} {f : FuncId} {args : List A} {h : Heap} {v : V} : ∀ {T : List RRow}, findR N f args h T = some v → ∃ r ∈ T, r.f = f ∧ r.args = args ∧ subHp r.m h.m = true ∧ h.next ≤ N ∧ r.v = v
  | [], e => by cases e
  | r :: t, e => by
    have e : (bif Nat.beq r.f f && sameL A.eqv r.args args && subHp r.m h.m && Nat.ble h.next N then some r.v else findR N f args h t) = some v := e
    cases hc : (Nat.beq r.f f && sameL A.eqv r.args args && subHp r.m h.m && Nat.ble h.next N) <;> rw [hc] at e <;> simp only [cond_true, cond_false] at e
    · obtain ⟨r', h1, h2⟩ := findR_ok e
      exact ⟨r', List.mem_cons_of_mem _ h1, h2⟩
    · cases e
      simp only [Bool.and_eq_true] at hc
      obtain ⟨⟨⟨h1, h2⟩, h3⟩, h4⟩ := hc
      exact ⟨r, List.mem_cons_self .., Nat.eq_of_beq_eq_true h1, sameL_eq (fun _ _ => A.eqv_ok) h2, h3, Nat.le_of_ble_eq_true h4, rfl⟩
theorem sound_rrow {P : Program} {O : Oracle} (hO : Sound P O) {N : Nat} {T : List RRow} (hT : T.all (rrowOk O N) = true) : Sound P (rrowO N T) := by
  intro f args h fl v h' e
  obtain ⟨v', hv, e⟩ := ob_some e
  cases e
  obtain ⟨r, hr, rfl, rfl, hs, hn, rfl⟩ := findR_ok hv
  have hk := List.all_eq_true.1 hT r hr
  unfold rrowOk at hk
  simp only [Bool.and_eq_true] at hk
  obtain ⟨hvf, hk⟩ := hk
  cases ho : O r.f r.args ⟨r.m, N⟩ N with
  | none => rw [ho] at hk; cases hk
  | some p =>
    rw [ho] at hk
    obtain ⟨v2, h2⟩ := p
    have hk : V.same v2 r.v = true := hk
    have hv2 := V.same_ok hk
    subst hv2
    obtain ⟨hc, hcalls⟩ := hO _ _ _ _ _ _ ho
    refine ⟨hc, fun R B w vs hi ha => ?_⟩
    have hget : ∀ l b, Heap.get ⟨r.m, N⟩ l = some b → h.get l = some b := fun l b hb => subHp_ok hs hb
    have hi' : Inv ⟨r.m, N⟩ R B w := ⟨fun l hl => Nat.lt_of_lt_of_le (hi.n l hl) hn, hi.b,
      ⟨fun l b hb => hi.hr.dom l b (hget l b hb), fun l b hb ho => hi.hr.own l b (hget l b hb) ho, fun l b hb ho => hi.hr.ro l b (hget l b hb) ho, fun l b l' b' h1 o1 h2 o2 e => hi.hr.inj l b l' b' (hget l b h1) o1 (hget l' b' h2) o2 e, hi.hr.nb, hi.hr.z⟩⟩
    refine (hcalls R B w vs hi' ha).mono fun e w' ⟨u, e1, r', i2, e2, ad⟩ => ⟨u, e1, ?_⟩
    refine Post.below hi ⟨ad.os, ad.tape, ad.output, ad.size, fun k hk => ad.frame k hk fun l c hl _ hfl => ?_⟩ (V.flat_any hvf e2)
    have := hi'.n l (hi'.hr.dom l c hl)
    have : l < N := this
    omega
end
end Go.Proofs.YtaamdiknefodgaaDoor.Am
