/- The abstract machine's operations without memory are the model's. (No program in sight.) -/
import Derived.Test.YtaamdiknefodgaaDoorAmRel
import Derived.ChangeKeysEq
import Derived.Laws.StructEq
import Derived.Laws.Shifts
namespace Go.Proofs.YtaamdiknefodgaaDoor.Am
set_option linter.unusedSectionVars false
variable [Base]

def TyOk (P : Program) (ty : Tys) : Prop := ∀ t T, ty t = some T → ∃ i d z, P.toTables.info? t = some i ∧ P.underlying t = some d ∧ i.zero = some z ∧
  T.d = dOf d ∧ T.size = i.size ∧ T.bytes = i.bytes ∧ T.cmp = cmpOf P t d ∧ ∀ r, All2 (VS r) T.zero z.cells.toList

theorem cellOf_ok {v : Value} {s : S} (h : cellOf v = some s) (r : Ren) : VS r s v := by
  unfold cellOf ofValue at h
  split at h
  · rename_i x hx
    simp at h
    subst h
    split at hx <;> simp at hx <;> subst hx <;> simp [VS]
  · simp at h
theorem ofValue_ok {v : Value} {x : A} (h : ofValue v = some x) (r : Ren) : VA r x v := by
  unfold ofValue at h
  split at h <;> simp at h <;> subst h <;> simp [VA, VS]
theorem tyOf_ok (P : Program) : TyOk P (tyOf P) := by
  intro t T h
  unfold tyOf at h
  split at h
  · rename_i i d hi hd
    split at h
    · rename_i z hz
      split at h
      · rename_i c hc
        simp at h
        subst h
        refine ⟨i, d, z, hi, hd, hz, rfl, rfl, rfl, rfl, fun r => ?_⟩
        have := mapO_all hc
        clear hc hz
        generalize z.cells.toList = l at this
        induction c generalizing l with
        | nil => cases l <;> first | trivial | exact this.elim
        | cons x c ih => cases l with
          | nil => exact this.elim
          | cons y l => exact ⟨cellOf_ok this.1 r, ih l this.2⟩
      · simp at h
    · simp at h
  · simp at h

/-- a frame -/
def FR (r : Ren) (fr : Fr) (a : Act) : Prop := All2 (VV r) fr a.tmps.toList
theorem ev_ok {r : Ren} {fr : Fr} {a : Act} (h : FR r fr a) {x : Operand} {v : V} (k : ev fr x = some v) : VV r v (a.eval x) := by
  cases x with
  | tmp t =>
    obtain ⟨u, hu, hv⟩ := All2.nth h k
    have : a.tmps.getD t Go.undef = u := by
      simp at hu
      obtain ⟨h1, h2⟩ := Array.getElem?_eq_some_iff.1 hu
      simp [Array.getD, h1, h2]
    rw [Act.eval, this]
    exact hv
  | const v' =>
    obtain ⟨y, hy, hv⟩ := ob_some (show ob (ofValue v') vA = some v from k)
    simp [vA] at hv
    subst hv
    exact ofValue_ok hy r
  | global g => cases k
  | func f =>
    cases k
    exact ⟨by simp, by simp [Act.eval]⟩
theorem evA_ok {r : Ren} {fr : Fr} {a : Act} (h : FR r fr a) {x : Operand} {v : A} (k : evA fr x = some v) : VA r v (a.eval x) := by
  obtain ⟨y, hy, hv⟩ := ob_some k
  cases y with
  | a y => cases hv; exact ev_ok h hy
  | t l => cases hv
  | any => cases hv
theorem evS_ok {r : Ren} {fr : Fr} {a : Act} (h : FR r fr a) {x : Operand} {v : S} (k : evS fr x = some v) : VS r v (a.eval x) := by
  obtain ⟨y, hy, hv⟩ := ob_some k
  cases y with
  | s y => cases hv; exact evA_ok h hy
  | g l => cases hv
theorem evInt_ok {r : Ren} {fr : Fr} {a : Act} (h : FR r fr a) {x : Operand} {n : Int} (k : evInt fr x = some n) : ∃ q, a.eval x = .int q n := by
  obtain ⟨y, hy, hv⟩ := ob_some k
  have := evS_ok h hy
  unfold S.isInt at hv
  split at hv <;> simp at hv
  subst hv
  exact ⟨_, this⟩
theorem evPtr_ok {r : Ren} {fr : Fr} {a : Act} (h : FR r fr a) {x : Operand} {p : Nat × Nat} (k : evPtr fr x = some p) : r.ok p.1 ∧ a.eval x = .pointer (some (r.at p.1 p.2)) := by
  obtain ⟨y, hy, hv⟩ := ob_some k
  have := evS_ok h hy
  unfold S.isPtr at hv
  split at hv <;> simp at hv
  subst hv
  exact this
theorem Act.put_tmps (a : Act) (d : Option Tmp) (v : Value) : (a.put d v).tmps = match d with | some d => a.tmps.setIfInBounds d v | none => a.tmps := by cases d <;> rfl
theorem FR.put {r : Ren} {fr : Fr} {a : Act} (h : FR r fr a) (d : Option Tmp) {v : V} {u : Value} (k : VV r v u) : FR r (putV fr d v) (a.put d u) := by
  cases d with
  | none => exact h
  | some d =>
    show All2 (VV r) (upd fr d v) (a.tmps.setIfInBounds d u).toList
    rw [upd_eq, Array.toList_setIfInBounds]
    exact All2.set d h k
theorem FR.mono {r r' : Ren} (h : r.le r') {fr : Fr} {a : Act} (k : FR r fr a) : FR r' fr a := All2.imp (fun _ _ => VV.mono h) k

section
variable {P : Program} {ty : Tys}
theorem TyOk.int {h : TyOk P ty} {t : TypeId} {T : Ty} (ht : ty t = some T) {d : TypeDesc} (hd : P.underlying t = some d) : T.d = dOf d := by
  obtain ⟨i, d', z, _, h2, _, h4, _⟩ := h t T ht
  rw [hd] at h2
  cases h2
  exact h4
theorem dOf_int {d : TypeDesc} {k : IntKind} (h : dOf d = .int k) : d = .int k := by cases d <;> simp_all [dOf]
theorem dOf_one {d : TypeDesc} (h : dOf d = .one) : d = .bool := by cases d <;> simp_all [dOf]
theorem dOf_str {d : TypeDesc} (h : dOf d = .str) : d = .string := by cases d <;> simp_all [dOf]
theorem dOf_ptr {d : TypeDesc} {e : TypeId} (h : dOf d = .ptr e) : d = .pointer e := by cases d <;> simp_all [dOf]
theorem dOf_sl {d : TypeDesc} {e : TypeId} (h : dOf d = .sl e) : d = .slice e := by cases d <;> simp_all [dOf]
theorem dOf_arr {d : TypeDesc} {n : Nat} {e : TypeId} (h : dOf d = .arr n e) : d = .array n e := by cases d <;> simp_all [dOf]
theorem dOf_ifc {d : TypeDesc} (h : dOf d = .ifc) : ∃ m, d = .interface m := by cases d <;> simp_all [dOf]
theorem dOf_st {d : TypeDesc} {fs : List (Nat × TypeId)} (h : dOf d = .st fs) : ∃ F, d = .struct F ∧ fs = F.toList.map fun f => (f.offset, f.type) := by
  cases d <;> simp_all [dOf]
end

section
variable {P : Program} {w : World}
/-- the result of an operation that leaves the world alone -/
def Gives (P : Program) (s : Sem Value) (r : Ren) (v : V) : Prop := ∀ w, ∃ u, s.run P w = .ok u w ∧ VV r v u

theorem intOp_ok {op : BinOp} {k : IntKind} {x y : Int} {s : S} (t : TypeId) (h : intOp op k x y = some s) (r : Ren) : ∃ u, (binOp op t (.int k x) (.int k y)).run P w = .ok u w ∧ VS r s u := by
  cases op <;> simp only [intOp] at h <;> (first | (cases h; done) | skip) <;> (try (cases h; exact ⟨_, by simp [binOp, Op.intArith, Op.intBits, Op.intCmp, bits], rfl⟩))
  · unfold quo at h
    cases hb : (y == 0) <;> simp only [hb, cond_true, cond_false] at h
    · cases h
      have h0 : y ≠ 0 := by simpa using hb
      exact ⟨_, by simp [binOp, Op.intDiv, h0], rfl⟩
    · cases h
  · unfold rem at h
    cases hb : (y == 0) <;> simp only [hb, cond_true, cond_false] at h
    · cases h
      have h0 : y ≠ 0 := by simpa using hb
      exact ⟨_, by simp [binOp, Op.intDiv, h0], rfl⟩
    · cases h

theorem intBin_ok {op : BinOp} {k k' : IntKind} {x y : Int} {s : S} (t : TypeId) (h : intBin op k x k' y = some s) (r : Ren) : ∃ u, (binOp op t (.int k x) (.int k' y)).run P w = .ok u w ∧ VS r s u := by
  have rest : (bif k == k' then intOp op k x y else none) = some s → ∃ u, (binOp op t (.int k x) (.int k' y)).run P w = .ok u w ∧ VS r s u := fun hr => by
    clear h
    cases hk : (k == k') <;> simp only [hk, cond_true, cond_false] at hr
    · cases hr
    · obtain rfl : k = k' := by simpa using hk
      exact intOp_ok t hr r
  cases op <;> simp only [intBin] at h <;> (first | (exact rest h) | skip)
  · unfold shl at h
    cases hb : decide (y < 0) <;> simp only [hb, cond_true, cond_false] at h
    · cases h
      have h0 : ¬ y < 0 := by simpa using hb
      exact ⟨_, by simp [binOp, Op.shift, h0], rfl⟩
    · cases h
  · unfold shr at h
    cases hb : decide (y < 0) <;> simp only [hb, cond_true, cond_false] at h
    · cases h
      have h0 : ¬ y < 0 := by simpa using hb
      exact ⟨_, by simp [binOp, Op.shift, h0], rfl⟩
    · cases h

theorem ba_append (a b : List UInt8) : (⟨a.toArray⟩ : ByteArray) ++ ⟨b.toArray⟩ = ⟨(a ++ b).toArray⟩ := by
  apply ByteArray.ext
  simp
theorem ba_toList (a : List UInt8) : (⟨a.toArray⟩ : ByteArray).toList = a := by rw [ByteArray.toList_eq]
theorem ba_size (a : List UInt8) : (⟨a.toArray⟩ : ByteArray).size = a.length := by show a.toArray.size = _; simp
theorem strBin_ok {op : BinOp} {x y : List UInt8} {s : S} (t : TypeId) (h : strBin op x y = some s) (r : Ren) : ∃ u, (binOp op t (.string ⟨x.toArray⟩) (.string ⟨y.toArray⟩)).run P w = .ok u w ∧ VS r s u := by
  cases op <;> simp only [strBin] at h <;> (first | (cases h; done) | skip) <;> (try (cases h; first | exact ⟨_, (by simp only [binOp, Op.stringOp, ba_toList]; rfl), rfl⟩ | skip))
  unfold cat at h
  cases hb : Nat.ble (x.length + y.length) maxStr <;> simp only [hb, cond_true, cond_false] at h
  · cases h
  · cases h
    have h1 := Nat.le_of_ble_eq_true hb
    have h2 : ¬ ((x.length : Int) + (y.length : Int) > IntKind.i64.max) := by
      have : IntKind.i64.max = 9223372036854775807 := by decide
      rw [this]; unfold maxStr at h1; omega
    refine ⟨_, ?_, rfl⟩
    simp only [binOp, Op.stringOp, ba_append]
    rw [if_neg (by simpa [ba_size] using h2)]
    rfl

/-! what is not written out -/
theorem orO_some {α : Type} {x y : Option α} {z : α} (h : orO x y = some z) : x = some z ∨ y = some z := by
  cases x with
  | none => exact .inr h
  | some a => exact .inl h
theorem beq_dec (a b : List UInt8) : (a == b) = decide (a = b) := by rw [Bool.eq_iff_iff]; simp
theorem num_ok {r : Ren} {x : S} {p : IntKind × N} (h : x.num = some p) {u : Value} (hu : VS r x u) : u = .int p.1 (NV p.2) := by
  unfold S.num at h
  split at h <;> cases h <;> exact hu
theorem iv_ok {a : N} {p : Int × Int} (h : a.iv = some p) : p.1 ≤ NV a ∧ NV a ≤ p.2 := by
  unfold N.iv at h
  split at h
  · cases h; exact ⟨Int.le_refl _, Int.le_refl _⟩
  · exact Base.ok.iv _ _ h
theorem ltI_ok {a b : N} {r : Bool} (h : ltI a b = some r) : r = decide (NV a < NV b) := by
  obtain ⟨p, hp, h⟩ := ob_some h
  obtain ⟨q, hq, h⟩ := ob_some h
  have h1 := iv_ok hp
  have h2 := iv_ok hq
  by_cases c1 : p.2 < q.1
  · rw [decide_eq_true c1] at h
    cases h
    exact (decide_eq_true (by omega)).symm
  · rw [decide_eq_false c1] at h
    by_cases c2 : q.2 ≤ p.1
    · rw [decide_eq_true c2] at h
      cases h
      exact (decide_eq_false (by omega)).symm
    · rw [decide_eq_false c2] at h
      cases h
theorem eqI_ok {a b : N} {r : Bool} (h : eqI a b = some r) : r = decide (NV a = NV b) := by
  obtain ⟨p, hp, h⟩ := ob_some h
  obtain ⟨q, hq, h⟩ := ob_some h
  have h1 := iv_ok hp
  have h2 := iv_ok hq
  cases hc : (decide (p.2 < q.1) || decide (q.2 < p.1)) <;> rw [hc] at h <;> simp only [cond_true, cond_false] at h
  · cases hd : (decide (p = q) && decide (p.1 = p.2)) <;> rw [hd] at h <;> cases h
    simp only [Bool.and_eq_true, decide_eq_true_eq] at hd
    obtain ⟨rfl, hd⟩ := hd
    exact (decide_eq_true (by omega)).symm
  · cases h
    refine (decide_eq_false ?_).symm
    simp only [Bool.or_eq_true, decide_eq_true_eq] at hc
    omega
theorem beq_i {i j : Nat} (h : Nat.beq i j = true) : i = j := Nat.eq_of_beq_eq_true h
theorem ltX_ok {a b : N} {r : Bool} (h : ltX a b = some r) : r = decide (NV a < NV b) := by
  unfold ltX at h
  split at h
  · rename_i i j
    cases c1 : Nat.beq i j <;> rw [c1] at h <;> simp only [cond_true, cond_false] at h
    · cases c2 : hasPair Know.lt i j <;> rw [c2] at h <;> simp only [cond_true, cond_false] at h
      · cases c3 : hasPair Know.lt j i <;> rw [c3] at h <;> simp only [cond_true, cond_false] at h
        · exact ltI_ok h
        · cases h
          have := Base.ok.lt _ _ c3
          exact (decide_eq_false (by show ¬ Base.rho i < Base.rho j; omega)).symm
      · cases h
        exact (decide_eq_true (Base.ok.lt _ _ c2)).symm
    · cases h
      obtain rfl := beq_i c1
      simp
  · exact ltI_ok h
theorem eqX_ok {a b : N} {r : Bool} (h : eqX a b = some r) : r = decide (NV a = NV b) := by
  unfold eqX at h
  split at h
  · rename_i i j
    cases c1 : Nat.beq i j <;> rw [c1] at h <;> simp only [cond_true, cond_false] at h
    · cases c2 : (hasPair Know.ne i j || hasPair Know.ne j i || hasPair Know.lt i j || hasPair Know.lt j i) <;> rw [c2] at h <;> simp only [cond_true, cond_false] at h
      · exact eqI_ok h
      · cases h
        refine (decide_eq_false ?_).symm
        show ¬ Base.rho i = Base.rho j
        simp only [Bool.or_eq_true] at c2
        rcases c2 with ((c2 | c2) | c2) | c2
        · exact Base.ok.ne _ _ c2
        · exact fun e => Base.ok.ne _ _ c2 e.symm
        · have := Base.ok.lt _ _ c2; omega
        · have := Base.ok.lt _ _ c2; omega
    · cases h
      obtain rfl := beq_i c1
      simp
  · exact eqI_ok h
theorem notO_some {x : Option Bool} {b : Bool} (h : notO x = some b) : x = some (!b) := by
  obtain ⟨y, hy, h⟩ := ob_some h
  cases h
  simpa using hy
theorem cmpX_ok {op : BinOp} {a b : N} {r : Bool} (h : cmpX op a b = some r) (k : IntKind) : intOp op k (NV a) (NV b) = some (.bool r) := by
  unfold cmpX at h
  split at h
  · have := eqX_ok h; subst this; simp only [intOp]; congr 2
  · have := eqX_ok (notO_some h)
    simp only [intOp]
    congr 2
    cases r <;> simp at this ⊢ <;> exact this
  · have := ltX_ok h; subst this; rfl
  · have := ltX_ok h; subst this; rfl
  · have := ltX_ok (notO_some h)
    simp only [intOp]
    congr 2
    cases r <;> simp at this ⊢ <;> omega
  · have := ltX_ok (notO_some h)
    simp only [intOp]
    congr 2
    cases r <;> simp at this ⊢ <;> omega
  · cases h
theorem num2_some {α : Type} {x y : S} {f : N → N → Option α} {z : α} (h : num2 x y f = some z) : ∃ k a b, x.num = some (k, a) ∧ y.num = some (k, b) ∧ f a b = some z := by
  obtain ⟨p, hp, h⟩ := ob_some h
  obtain ⟨q, hq, h⟩ := ob_some h
  cases hk : (p.1 == q.1) <;> rw [hk] at h <;> simp only [cond_true, cond_false] at h
  · cases h
  have hk : p.1 = q.1 := by simpa using hk
  exact ⟨p.1, p.2, q.2, hp, by rw [hk]; exact hq, h⟩
theorem strX_app (sig : Nat → List UInt8) : ∀ a b : List Nat, strX sig (a ++ b) = strX sig a ++ strX sig b
  | [], _ => rfl
  | n :: a, b => by simp [strX, strX_app sig a b]
theorem strX_str (sig : Nat → List UInt8) : ∀ s : List UInt8, strX sig (s.map UInt8.toNat) = s
  | [] => rfl
  | c :: s => by
    have : Nat.blt c.toNat 256 = true := by
      show Nat.ble (c.toNat + 1) 256 = true
      exact Nat.ble_eq_true_of_le c.toNat_lt
    simp [strX, this, strX_str sig s]
theorem txt_ok {r : Ren} {x : S} {l : List Nat} (h : x.txt = some l) {u : Value} (hu : VS r x u) : u = .string ⟨(strX Base.sig l).toArray⟩ := by
  unfold S.txt at h
  split at h <;> cases h
  · rw [strX_str]; exact hu
  · exact hu
theorem sameX_ok : ∀ {a b : List Nat}, sameX a b = true → a = b
  | [], [], _ => rfl
  | a :: r, b :: s, h => by
    simp only [sameX, Bool.and_eq_true] at h
    rw [beq_i h.1, sameX_ok h.2]
  | [], _ :: _, h => by cases h
  | _ :: _, [], h => by cases h
theorem findSq_ok {a b : List Nat} {z : Bool} : ∀ {l : List (List Nat × List Nat × Bool)}, findSq a b l = some z → (a, b, z) ∈ l ∨ (b, a, z) ∈ l
  | [], h => by cases h
  | (p, q, r) :: t, h => by
    have h : (bif (sameX p a && sameX q b) || (sameX p b && sameX q a) then some r else findSq a b t) = some z := h
    cases hc : ((sameX p a && sameX q b) || (sameX p b && sameX q a)) <;> rw [hc] at h <;> simp only [cond_true, cond_false] at h
    · rcases findSq_ok h with h | h
      · exact .inl (by simp [h])
      · exact .inr (by simp [h])
    · cases h
      simp only [Bool.or_eq_true, Bool.and_eq_true] at hc
      rcases hc with ⟨h1, h2⟩ | ⟨h1, h2⟩
      · rw [sameX_ok h1, sameX_ok h2]; simp
      · rw [sameX_ok h1, sameX_ok h2]; simp
theorem eqS_ok {a b : List Nat} {z : Bool} (h : eqS a b = some z) : z = decide (strX Base.sig a = strX Base.sig b) := by
  unfold eqS at h
  cases hc : sameX a b <;> rw [hc] at h <;> simp only [cond_true, cond_false] at h
  · rcases findSq_ok h with h | h
    · exact (Base.ok.sq _ _ _ h).symm
    · rw [← Base.ok.sq _ _ _ h]
      exact decide_eq_decide.2 eq_comm
  · cases h
    rw [sameX_ok hc]
    simp
theorem mxX_ok : ∀ {l : List Nat} {m : Nat}, mxX l = some m → (strX Base.sig l).length ≤ m
  | [], m, h => by cases h; exact Nat.le_refl _
  | n :: r, m, h => by
    obtain ⟨k, hk, h⟩ := ob_some (show ob (mxX r) (fun m => bif Nat.blt n 256 then some (m + 1) else ob (nth Know.mx (n - 256)) fun k => some (m + k)) = some m from h)
    have ih := mxX_ok hk
    rw [strX, List.length_append]
    cases hc : Nat.blt n 256 <;> rw [hc] at h <;> simp only [cond_true, cond_false] at h
    · obtain ⟨q, hq, h⟩ := ob_some h
      cases h
      have := Base.ok.mx _ _ hq
      simp only [cond_false]
      omega
    · cases h
      simp
      omega

/-! == -/
theorem list_beq (a b : List UInt8) : ((⟨a.toArray⟩ : ByteArray).toList == (⟨b.toArray⟩ : ByteArray).toList) = (a == b) := by rw [ba_toList, ba_toList]
theorem eqInt_ok {r : Ren} {x y : S} {u v : Value} {b : Bool} (h : eqInt x y = some b) (hu : VS r x u) (hv : VS r y v) {t : TypeId} {k : IntKind} (ht : P.underlying t = some (.int k)) (d : Nat) : (Op.equalIn (d + 1) t u v).run P w = .ok b w := by
  have hh := orO_some h
  clear h
  rcases hh with h | h
  case inr =>
    obtain ⟨k1, a, c, e1, e2, h⟩ := num2_some h
    rw [num_ok e1 hu, num_ok e2 hv, eqX_ok h]
    exact run_equalIn_int w d t k1 k _ _ ht
  unfold eqInt0 at h
  split at h <;> try cases h
  rename_i k1 a k2 b'
  cases hk : (k1 == k2) <;> simp only [hk, cond_true, cond_false] at h <;> cases h
  obtain rfl : k1 = k2 := by simpa using hk
  cases hu; cases hv
  exact run_equalIn_int w d t k1 k a b' ht
theorem eqC_ok {i : Nat} {c : Int} {b : Bool} (h : eqC i c = some b) : decide (Base.rho i = c) = b := by
  obtain ⟨p, hp, h⟩ := ob_some h
  obtain ⟨h1, h2⟩ := Base.ok.iv _ _ hp
  cases hc : (decide (c < p.1) || decide (p.2 < c)) <;> rw [hc] at h <;> simp only [cond_true, cond_false] at h
  · cases hd : (decide (p.1 = c) && decide (p.2 = c)) <;> rw [hd] at h <;> simp only [cond_true, cond_false] at h
    · cases h
    · cases h
      simp at hd
      simp
      omega
  · cases h
    simp at hc
    simp
    omega
theorem anyE_cons (p : Nat × Int) (t : List (Nat × Int)) : anyE (p :: t) = Option.rec (ob (anyE t) fun b => bif b then some true else none) (fun b => bif b then some true else anyE t) (eqC p.1 p.2) := rfl
theorem anyE_ok : ∀ {l : List (Nat × Int)} {b : Bool}, anyE l = some b → (l.any fun p => decide (Base.rho p.1 = p.2)) = b
  | [], b, h => by cases h; rfl
  | p :: t, b, h => by
    rw [anyE_cons] at h
    rw [List.any_cons]
    cases hq : eqC p.1 p.2 with
    | none =>
      rw [hq] at h
      obtain ⟨c, hc, h⟩ := ob_some h
      cases c <;> simp only [cond_true, cond_false] at h <;> cases h
      rw [anyE_ok hc, Bool.or_true]
    | some c =>
      rw [hq] at h
      rw [eqC_ok hq]
      cases c
      · rw [Bool.false_or]; exact anyE_ok h
      · cases h; rfl
theorem allE_cons (p : Nat × Int) (t : List (Nat × Int)) : allE (p :: t) = Option.rec (ob (allE t) fun b => bif b then none else some false) (fun b => bif b then allE t else some false) (eqC p.1 p.2) := rfl
theorem allE_ok : ∀ {l : List (Nat × Int)} {b : Bool}, allE l = some b → (l.all fun p => decide (Base.rho p.1 = p.2)) = b
  | [], b, h => by cases h; rfl
  | p :: t, b, h => by
    rw [allE_cons] at h
    rw [List.all_cons]
    cases hq : eqC p.1 p.2 with
    | none =>
      rw [hq] at h
      obtain ⟨c, hc, h⟩ := ob_some h
      cases c <;> simp only [cond_true, cond_false] at h <;> cases h
      rw [allE_ok hc, Bool.and_false]
    | some c =>
      rw [hq] at h
      rw [eqC_ok hq]
      cases c
      · cases h; rfl
      · rw [Bool.true_and]; exact allE_ok h
theorem hasE_mem {p : Nat × Int} : ∀ {l : List (Nat × Int)}, hasE l p = true → p ∈ l
  | [], h => by cases h
  | q :: t, h => by
    have h : ((Nat.beq q.1 p.1 && decide (q.2 = p.2)) || hasE t p) = true := h
    simp only [Bool.or_eq_true, Bool.and_eq_true, decide_eq_true_eq] at h
    rcases h with ⟨h1, h2⟩ | h
    · rw [show p = q from (Prod.ext (Nat.eq_of_beq_eq_true h1) h2).symm]; exact List.mem_cons_self ..
    · exact List.mem_cons_of_mem _ (hasE_mem h)
theorem allK_ok {l : List (Nat × Int)} {b : Bool} (h : allK l = some b) : (l.all fun p => decide (Base.rho p.1 = p.2)) = b := by
  unfold allK at h
  cases he : allE l with
  | some c => rw [he] at h; cases h; exact allE_ok he
  | none =>
    rw [he] at h
    have h : (bif Know.cf.any (fun m => m.all (hasE l)) then some false else none) = some b := h
    cases hc : Know.cf.any (fun m => m.all (hasE l)) <;> rw [hc] at h <;> cases h
    obtain ⟨m, hm, hs⟩ := List.any_eq_true.1 hc
    have hf := Base.ok.cf m hm
    cases hl : (l.all fun p => decide (Base.rho p.1 = p.2)) with
    | false => rfl
    | true =>
      have : (m.all fun p => decide (Base.rho p.1 = p.2)) = true := List.all_eq_true.2 fun p hp => List.all_eq_true.1 hl p (hasE_mem (List.all_eq_true.1 hs p hp))
      rw [this] at hf
      cases hf
theorem isBool_ok {r : Ren} {x : S} {b : Bool} (h : x.isBool = some b) {u : Value} (hu : VS r x u) : u = .bool b := by
  unfold S.isBool at h
  split at h
  · cases h; exact hu
  · rw [← anyE_ok h]; exact hu
  · obtain ⟨c, hc, h⟩ := ob_some h
    cases h
    rw [← allK_ok hc]; exact hu
  · cases h
theorem sameE_eq : ∀ {a b : List (Nat × Int)}, sameE a b = true → a = b
  | [], [], _ => rfl
  | a :: r, b :: s, h => by
    simp only [sameE, Bool.and_eq_true, decide_eq_true_eq] at h
    obtain ⟨⟨h1, h2⟩, h3⟩ := h
    rw [sameE_eq h3, show a = b from Prod.ext (Nat.eq_of_beq_eq_true h1) h2]
  | [], _ :: _, h => by cases h
  | _ :: _, [], h => by cases h
theorem eqBool_some {r : Ren} {x y : S} {u v : Value} {b : Bool} (h : eqBool x y = some b) (hu : VS r x u) (hv : VS r y v) : ∃ p q : Bool, u = .bool p ∧ v = .bool q ∧ b = (p == q) := by
  rcases orO_some h with h | h
  · unfold eqBool0 at h
    split at h
    · cases h; cases hu; cases hv; exact ⟨_, _, rfl, rfl, rfl⟩
    · rename_i l m _
      cases hs : sameE l m <;> rw [hs] at h <;> cases h
      obtain rfl := sameE_eq hs
      cases hu; cases hv
      exact ⟨_, _, rfl, rfl, by simp⟩
    · rename_i l p m q _
      cases hs : sameE l m <;> rw [hs] at h <;> cases h
      obtain rfl := sameE_eq hs
      cases hu; cases hv
      refine ⟨_, _, rfl, rfl, ?_⟩
      cases (l.all fun p => decide (Base.rho p.1 = p.2)) <;> cases p <;> cases q <;> rfl
    · cases h
  · obtain ⟨p, hp, h⟩ := ob_some h
    obtain ⟨q, hq, h⟩ := ob_some h
    cases h
    exact ⟨p, q, isBool_ok hp hu, isBool_ok hq hv, rfl⟩
theorem eqBool_ok {r : Ren} {x y : S} {u v : Value} {b : Bool} (h : eqBool x y = some b) (hu : VS r x u) (hv : VS r y v) {t : TypeId} (ht : P.underlying t = some .bool) (d : Nat) : (Op.equalIn (d + 1) t u v).run P w = .ok b w := by
  obtain ⟨p, q, rfl, rfl, rfl⟩ := eqBool_some h hu hv
  exact run_equalIn_bool' w d t _ _ ht
theorem eqStr_ok {r : Ren} {x y : S} {u v : Value} {b : Bool} (h : eqStr x y = some b) (hu : VS r x u) (hv : VS r y v) {t : TypeId} (ht : P.underlying t = some .string) (d : Nat) : (Op.equalIn (d + 1) t u v).run P w = .ok b w := by
  have hh := orO_some h
  clear h
  rcases hh with h | h
  case inr =>
    obtain ⟨a, ha, h⟩ := ob_some h
    obtain ⟨c, hc, h⟩ := ob_some h
    rw [txt_ok ha hu, txt_ok hc hv, eqS_ok h, run_equalIn_string w d t _ _ ht, list_beq]
    rw [beq_dec]
  unfold eqStr0 at h
  split at h <;> cases h
  cases hu; cases hv
  rw [run_equalIn_string w d t _ _ ht, list_beq]
theorem eqNil_some {p q : Option Bool} {b : Bool} (h : eqNil p q = some b) : ∃ x y, p = some x ∧ q = some y ∧ (x || y) = true ∧ b = (x && y) := by
  unfold eqNil at h
  obtain ⟨x, hx, h⟩ := ob_some h
  obtain ⟨y, hy, h⟩ := ob_some h
  cases hk : (x || y) <;> simp only [hk, cond_true, cond_false] at h <;> cases h
  exact ⟨x, y, hx, hy, hk, rfl⟩
theorem nilPtr_ok {r : Ren} {x : S} {b : Bool} (h : nilPtr x = some b) {u : Value} (hu : VS r x u) : (b = true ∧ u = .pointer none) ∨ (b = false ∧ ∃ a, u = .pointer (some a)) := by
  unfold nilPtr at h
  split at h <;> cases h
  · exact .inl ⟨rfl, hu⟩
  · exact .inr ⟨rfl, _, hu.2⟩
theorem nilSl_ok {r : Ren} {x : S} {b : Bool} (h : nilSl x = some b) {u : Value} (hu : VS r x u) : (b = true ∧ u = .slice none 0 0) ∨ (b = false ∧ ∃ a n c, u = .slice (some a) n c) := by
  unfold nilSl at h
  split at h <;> cases h
  · exact .inl ⟨rfl, hu⟩
  · rename_i l o n z c
    cases c with
    | none => exact .inr ⟨rfl, _, _, _, hu.2.2.2⟩
    | some c => exact .inr ⟨rfl, _, _, _, hu.2.2.2⟩
  · obtain ⟨a, c, e⟩ := hu
    exact .inr ⟨rfl, _, _, _, e⟩
theorem nilIf_ok {r : Ren} {x : S} {b : Bool} (h : nilIf x = some b) {u : Value} (hu : VS r x u) : (b = true ∧ u = .nilIface) ∨ (b = false ∧ ∃ t y, u = .iface t y) := by
  unfold nilIf at h
  split at h <;> cases h
  · exact .inl ⟨rfl, hu⟩
  · exact .inr ⟨rfl, hu⟩
theorem eqPtr_ok {r : Ren} {x y : S} {u v : Value} {b : Bool} (h : eqNil (nilPtr x) (nilPtr y) = some b) (hu : VS r x u) (hv : VS r y v) {t e : TypeId} (ht : P.underlying t = some (.pointer e)) (d : Nat) : (Op.equalIn (d + 1) t u v).run P w = .ok b w := by
  obtain ⟨p, q, hp, hq, ho, rfl⟩ := eqNil_some h
  rcases nilPtr_ok hp hu with ⟨rfl, rfl⟩ | ⟨rfl, a, rfl⟩ <;> rcases nilPtr_ok hq hv with ⟨rfl, rfl⟩ | ⟨rfl, c, rfl⟩ <;> simp [Op.equalIn, run_underlying ht] at ho ⊢
theorem eqSl_ok {r : Ren} {x y : S} {u v : Value} {b : Bool} (h : eqNil (nilSl x) (nilSl y) = some b) (hu : VS r x u) (hv : VS r y v) {t e : TypeId} (ht : P.underlying t = some (.slice e)) (d : Nat) : (Op.equalIn (d + 1) t u v).run P w = .ok b w := by
  obtain ⟨p, q, hp, hq, ho, rfl⟩ := eqNil_some h
  rcases nilSl_ok hp hu with ⟨rfl, rfl⟩ | ⟨rfl, a, _, _, rfl⟩ <;> rcases nilSl_ok hq hv with ⟨rfl, rfl⟩ | ⟨rfl, c, _, _, rfl⟩ <;> simp [Op.equalIn, run_underlying ht] at ho ⊢
theorem eqIf_ok {r : Ren} {x y : S} {u v : Value} {b : Bool} (h : eqNil (nilIf x) (nilIf y) = some b) (hu : VS r x u) (hv : VS r y v) {t : TypeId} {m : Array (String × TypeId)} (ht : P.underlying t = some (.interface m)) (d : Nat) : (Op.equalIn (d + 1) t u v).run P w = .ok b w := by
  obtain ⟨p, q, hp, hq, ho, rfl⟩ := eqNil_some h
  rcases nilIf_ok hp hu with ⟨rfl, rfl⟩ | ⟨rfl, a, _, rfl⟩ <;> rcases nilIf_ok hq hv with ⟨rfl, rfl⟩ | ⟨rfl, c, _, rfl⟩ <;> simp [Op.equalIn, run_underlying ht] at ho ⊢

theorem part_ok {ty : Tys} (hty : TyOk P ty) {t : TypeId} {T : Ty} (ht : ty t = some T) {r : Ren} {xs : List S} {us : List Value} (hx : All2 (VS r) xs us) {o : Nat} {c : List S} (hc : ext xs o T.size = some c) {x : A} (hm : T.mk' c = some x) :
    ∃ u, (part t us.toArray o).run P w = .ok u w ∧ VA r x u ∧ x.cells = c := by
  obtain ⟨i, d, z, hi, hd, hz, h1, h2, h3, h4⟩ := hty t T ht
  obtain ⟨hlen, rfl⟩ := ext_eq hc
  have hsz : (sizeOf t).run P w = .ok T.size w := by simp [sizeOf, typeInfo, hi, h2]
  have ha : (isAgg t).run P w = .ok T.d.agg w := by
    rw [h1]
    unfold isAgg
    cases d <;> simp [run_underlying hd, dOf, D.agg]
  unfold Ty.mk' at hm
  cases hg : T.d.agg <;> simp only [hg, cond_true, cond_false] at hm
  · split at hm <;> cases hm
    rename_i y hy
    have hn : nth xs o = some y := by
      rw [nth_eq]
      have := congrArg (fun l => l[0]?) hy
      simp only [List.getElem?_cons_zero] at this
      by_cases h0 : T.size = 0
      · rw [h0] at hy; simp at hy
      · simpa [List.getElem?_take, List.getElem?_drop, Nat.pos_of_ne_zero h0] using this
    obtain ⟨u, hu, hv⟩ := All2.nth hx hn
    exact ⟨u, by simp [part, ha, hg, hu], hv, hy.symm⟩
  · cases hm
    refine ⟨.agg ((us.drop o).take T.size).toArray, ?_, ⟨_, rfl, (hx.drop o).take _⟩, rfl⟩
    simp [part, ha, hg, hsz]

theorem eqIn_succ (ty : Tys) (n : Nat) (t : TypeId) (xs ys : List S) : eqIn ty (n + 1) t xs ys = ob (ty t) fun T => eqD ty (eqIn ty n) T.cmp T.d xs ys := rfl
theorem one1_some {α : Type} {f : S → S → Option α} {xs ys : List S} {b : α} (h : one1 f xs ys = some b) : ∃ x y, xs = [x] ∧ ys = [y] ∧ f x y = some b := by
  unfold one1 at h
  split at h
  · exact ⟨_, _, rfl, rfl, h⟩
  · cases h
theorem va_one {r : Ren} {x : A} {s : S} (hc : x.cells = [s]) {u : Value} (hu : VA r x u) {T : Ty} (hm : T.mk' x.cells = some x) (ha : T.d.agg = false) : VS r s u := by
  cases x with
  | s y => simp [A.cells] at hc; subst hc; exact hu
  | g l => unfold Ty.mk' at hm; simp only [ha, cond_false] at hm; split at hm <;> cases hm
theorem va_agg {r : Ren} {x : A} {u : Value} (hu : VA r x u) {T : Ty} (hm : T.mk' x.cells = some x) (ha : T.d.agg = true) : ∃ us : List Value, u = .agg us.toArray ∧ All2 (VS r) x.cells us := by
  cases x with
  | s y => unfold Ty.mk' at hm; simp only [ha, cond_true] at hm; cases hm
  | g l => exact hu

theorem eqIn_mk {ty : Tys} {n : Nat} {t : TypeId} {xs ys : List S} {b : Q} (h : eqIn ty n t xs ys = some b) {T : Ty} (ht : ty t = some T) : ∃ x y, T.mk' xs = some x ∧ T.mk' ys = some y := by
  cases n with
  | zero => cases h
  | succ n =>
    rw [eqIn_succ, ht] at h
    simp only [ob_some'] at h
    unfold Ty.mk'
    cases hd : T.d <;> simp only [hd, eqD] at h <;> (try cases h)
    all_goals (first
      | (obtain ⟨x, y, rfl, rfl, _⟩ := one1_some h; exact ⟨_, _, rfl, rfl⟩)
      | (obtain ⟨_, h, _⟩ := ob_some h; obtain ⟨x, y, rfl, rfl, _⟩ := one1_some h; exact ⟨_, _, rfl, rfl⟩)
      | exact ⟨_, _, rfl, rfl⟩)

theorem mk_cells {T : Ty} {c : List S} {x : A} (h : T.mk' c = some x) : x.cells = c := by
  unfold Ty.mk' at h
  cases hg : T.d.agg <;> simp only [hg, cond_true, cond_false] at h
  · split at h <;> cases h
    rfl
  · cases h; rfl

/-- what == comes to -/
def Q.val (q : Q) : Bool := match q with | .b x => x | .c l => l.all fun p => decide (Base.rho p.1 = p.2)
def EqOk (P : Program) (ty : Tys) (w : World) (f : TypeId → List S → List S → Option Q) (d : Nat) : Prop :=
  ∀ (r : Ren) t T x y u v b, ty t = some T → T.mk' x.cells = some x → T.mk' y.cells = some y → VA r x u → VA r y v → f t x.cells y.cells = some b → (Op.equalIn d t u v).run P w = .ok b.val w

theorem Q.and_val (p q : Q) : (p.and q).val = (p.val && q.val) := by
  cases p with
  | b x => cases x <;> cases q <;> simp [Q.and, Q.val]
  | c l => cases q with
    | b y => cases y <;> simp [Q.and, Q.val]
    | c m => simp [Q.and, Q.val, List.all_append]
theorem eqNext_some {r : Option Q} {k : Option Q} {q : Q} (h : eqNext r k = some q) : ∃ p, r = some p ∧ ((p = .b false ∧ q = .b false) ∨ ∃ q', k = some q' ∧ q = p.and q') := by
  obtain ⟨p, hp, h⟩ := ob_some h
  refine ⟨p, hp, ?_⟩
  split at h
  · cases h; exact .inl ⟨rfl, rfl⟩
  · obtain ⟨q', hq, h⟩ := ob_some h
    cases h
    exact .inr ⟨q', hq, rfl⟩
theorem find2_mem {i j d : Nat} : ∀ {l : List (Nat × Nat × Nat)}, find2 i j l = some d → (i, j, d) ∈ l
  | [], h => by cases h
  | p :: t, h => by
    have h : (bif Nat.beq p.1 i && Nat.beq p.2.1 j then some p.2.2 else find2 i j t) = some d := h
    cases hc : (Nat.beq p.1 i && Nat.beq p.2.1 j) <;> rw [hc] at h <;> simp only [cond_true, cond_false] at h
    · exact List.mem_cons_of_mem _ (find2_mem h)
    · cases h
      simp only [Bool.and_eq_true] at hc
      rw [← Nat.eq_of_beq_eq_true hc.1, ← Nat.eq_of_beq_eq_true hc.2]
      exact List.mem_cons_self ..
theorem findAd_mem {i k : Nat} {c : Int} : ∀ {l : List (Nat × Int × Nat)}, findAd i c l = some k → (i, c, k) ∈ l
  | [], h => by cases h
  | p :: t, h => by
    have h : (bif Nat.beq p.1 i && decide (p.2.1 = c) then some p.2.2 else findAd i c t) = some k := h
    cases hc : (Nat.beq p.1 i && decide (p.2.1 = c)) <;> rw [hc] at h <;> simp only [cond_true, cond_false] at h
    · exact List.mem_cons_of_mem _ (findAd_mem h)
    · cases h
      simp only [Bool.and_eq_true, decide_eq_true_eq] at hc
      rw [← Nat.eq_of_beq_eq_true hc.1, ← hc.2]
      exact List.mem_cons_self ..
theorem eqv_N {a b : N} (h : a.eqv b = true) : a = b := by
  cases a <;> cases b <;> simp [N.eqv] at h
  · rw [h]
  · rw [h]
theorem eqo_N {a b : Option N} (h : N.eqo a b = true) : a = b := by
  cases a <;> cases b <;> simp [N.eqo] at h
  · rfl
  · rw [eqv_N h]
theorem findSx_mem {a b : List Nat} {m : List (Nat × Int)} : ∀ {l : List (List Nat × List Nat × List (Nat × Int))}, findSx a b l = some m → (a, b, m) ∈ l
  | [], h => by cases h
  | (p, q, r) :: t, h => by
    have h : (bif sameX p a && sameX q b then some r else findSx a b t) = some m := h
    cases hc : (sameX p a && sameX q b) <;> rw [hc] at h <;> simp only [cond_true, cond_false] at h
    · exact List.mem_cons_of_mem _ (findSx_mem h)
    · cases h
      simp only [Bool.and_eq_true] at hc
      rw [sameX_ok hc.1, sameX_ok hc.2]
      exact List.mem_cons_self ..
theorem findCt_mem {l : List Nat} {a : N} {b : Option N} {m : List Nat} : ∀ {t : List (List Nat × N × Option N × List Nat)}, findCt l a b t = some m → (l, a, b, m) ∈ t
  | [], h => by cases h
  | (p, c, e, r) :: t, h => by
    have h : (bif sameX p l && c.eqv a && N.eqo e b then some r else findCt l a b t) = some m := h
    cases hc : (sameX p l && c.eqv a && N.eqo e b) <;> rw [hc] at h <;> simp only [cond_true, cond_false] at h
    · exact List.mem_cons_of_mem _ (findCt_mem h)
    · cases h
      simp only [Bool.and_eq_true] at hc
      rw [sameX_ok hc.1.1, eqv_N hc.1.2, eqo_N hc.2]
      exact List.mem_cons_self ..
theorem eqIntQ_ok {r : Ren} {x y : S} {u v : Value} {q : Q} (h : eqIntQ x y = some q) (hu : VS r x u) (hv : VS r y v) {t : TypeId} {k : IntKind} (ht : P.underlying t = some (.int k)) (d : Nat) : (Op.equalIn (d + 1) t u v).run P w = .ok q.val w := by
  have key : ∀ {i : Nat} {c : Int} {q : Q}, (Option.rec (some (atomQ i c)) (fun b => some (.b b)) (eqC i c) : Option Q) = some q → q.val = decide (Base.rho i = c) := fun {i c q} h => by
    cases he : eqC i c with
    | none => rw [he] at h; cases h; simp [Q.val, atomQ]
    | some b => rw [he] at h; cases h; exact (eqC_ok he).symm
  unfold eqIntQ at h
  split at h
  · rename_i k1 i k2 c
    cases hk : (k1 == k2) <;> rw [hk] at h <;> simp only [cond_true, cond_false] at h
    · cases h
    obtain rfl : k1 = k2 := by simpa using hk
    rw [key h]
    cases hu; cases hv
    rw [run_equalIn_int w d t k1 k _ _ ht]
    rfl
  · rename_i k1 c k2 i
    cases hk : (k2 == k1) <;> rw [hk] at h <;> simp only [cond_true, cond_false] at h
    · cases h
    obtain rfl : k2 = k1 := by simpa using hk
    rw [key h]
    cases hu; cases hv
    rw [run_equalIn_int w d t k2 k _ _ ht]
    congr 1
    show (c == Base.rho i) = _
    by_cases e : Base.rho i = c
    · simp [e]
    · have : ¬ c = Base.rho i := fun h => e h.symm
      simp [e, this]
  · rename_i k1 i k2 j
    cases hk : (k1 == k2) <;> rw [hk] at h <;> simp only [cond_true, cond_false] at h
    · cases h
    obtain rfl : k1 = k2 := by simpa using hk
    cases hu; cases hv
    rw [run_equalIn_int w d t k1 k _ _ ht]
    rcases orO_some h with h | h
    · obtain ⟨b, hb, h⟩ := ob_some h
      cases h
      rw [show Q.val (.b b) = b from rfl, eqX_ok hb]
      rfl
    · obtain ⟨m, hm, h⟩ := ob_some h
      cases h
      have := Base.ok.df _ _ _ (find2_mem hm)
      congr 1
      show (Base.rho i == Base.rho j) = _
      by_cases e : Base.rho i = Base.rho j
      · simp [Q.val, atomQ, e, this.1 e]
      · have : ¬ Base.rho m = 0 := fun h => e (this.2 h)
        simp [Q.val, atomQ, e, this]
  · obtain ⟨b, hb, h⟩ := ob_some h
    cases h
    exact eqInt_ok hb hu hv ht d
theorem boolQ_ok {l : List (Nat × Int)} {b : Bool} {q : Q} (h : boolQ l b = some q) : q.val = ((l.any fun p => decide (Base.rho p.1 = p.2)) == b) := by
  unfold boolQ at h
  split at h
  · rename_i i c
    cases he : eqC i c with
    | some v =>
      rw [he] at h
      cases h
      simp [Q.val, eqC_ok he]
    | none =>
      rw [he] at h
      have h : (bif b then some (atomQ i c) else ob (nth Know.iv i) fun p => bif decide (p = (0, 1)) && decide (c = 1) then some (atomQ i 0) else none) = some q := h
      cases b <;> simp only [cond_true, cond_false] at h
      · obtain ⟨p, hp, h⟩ := ob_some h
        cases hc : (decide (p = (0, 1)) && decide (c = 1)) <;> rw [hc] at h <;> simp only [cond_true, cond_false] at h <;> cases h
        simp only [Bool.and_eq_true, decide_eq_true_eq] at hc
        obtain ⟨rfl, rfl⟩ := hc
        have := Base.ok.iv _ _ hp
        simp only at this
        have h01 : Base.rho i = 0 ∨ Base.rho i = 1 := by omega
        rcases h01 with e | e <;> simp [Q.val, atomQ, e]
      · cases h
        simp [Q.val, atomQ]
  · cases h
theorem is01_ok {i : Nat} (h : is01 i = true) : Base.rho i = 0 ∨ Base.rho i = 1 := by
  unfold is01 at h
  cases hp : nth Know.iv i with
  | none => rw [hp] at h; cases h
  | some p =>
    rw [hp] at h
    simp only [decide_eq_true_eq] at h
    subst h
    have := Base.ok.iv _ _ hp
    simp only at this
    omega
theorem eqBoolQ_ok {r : Ren} {x y : S} {u v : Value} {q : Q} (h : eqBoolQ x y = some q) (hu : VS r x u) (hv : VS r y v) {t : TypeId} (ht : P.underlying t = some .bool) (d : Nat) : (Op.equalIn (d + 1) t u v).run P w = .ok q.val w := by
  have old : ∀ {x y : S} {u v : Value} {q : Q}, VS r x u → VS r y v → (ob (eqBool x y) fun b => some (Q.b b)) = some q → (Op.equalIn (d + 1) t u v).run P w = .ok q.val w := fun hu hv h => by
    obtain ⟨b, hb, h⟩ := ob_some h
    cases h
    exact eqBool_ok hb hu hv ht d
  unfold eqBoolQ at h
  split at h
  · rename_i l b
    rcases orO_some h with h | h
    · rw [boolQ_ok h]
      cases hu; cases hv
      rw [run_equalIn_bool' w d t _ _ ht]
    · exact old hu hv h
  · rename_i b l
    rcases orO_some h with h | h
    · rw [boolQ_ok h]
      cases hu; cases hv
      rw [run_equalIn_bool' w d t _ _ ht]
      congr 1
      exact Bool.beq_comm ..
    · exact old hu hv h
  · rename_i l m
    have h0 := orO_some h
    clear h
    rcases h0 with h | h
    · exact old hu hv h
    · unfold dfB at h
      split at h
      · rename_i i c j e
        cases hc : (decide (c = 1) && decide (e = 1) && is01 i && is01 j) <;> rw [hc] at h <;> simp only [cond_true, cond_false] at h
        · cases h
        simp only [Bool.and_eq_true, decide_eq_true_eq] at hc
        obtain ⟨⟨⟨rfl, rfl⟩, h1⟩, h2⟩ := hc
        obtain ⟨n, hn, h⟩ := ob_some h
        cases h
        have hd := Base.ok.df _ _ _ (find2_mem hn)
        have a1 := is01_ok h1
        have a2 := is01_ok h2
        cases hu; cases hv
        rw [run_equalIn_bool' w d t _ _ ht]
        congr 1
        rcases a1 with e1 | e1 <;> rcases a2 with e2 | e2 <;> rw [e1, e2] at hd <;> simp [Q.val, atomQ, e1, e2] at hd ⊢ <;> simp [hd]
      · cases h
  · exact old hu hv h
theorem eqFields_ok {ty : Tys} (hty : TyOk P ty) {n d : Nat} (IH : EqOk P ty w (eqIn ty n) d) {r : Ren} {xs ys : List S} {us vs : List Value} (hx : All2 (VS r) xs us) (hy : All2 (VS r) ys vs) :
    ∀ (F : List Field) (q : Q), (∀ f ∈ F, f.name ≠ "_") → eqFields ty (eqIn ty n) xs ys (F.map fun f => (f.offset, f.type)) = some q → (Op.eqFields d us.toArray vs.toArray F).run P w = .ok q.val w
  | [], b, _, h => by cases h; rfl
  | f :: F, b, hn, h => by
    simp only [List.map_cons, eqFields] at h
    obtain ⟨T, hT, h⟩ := ob_some h
    obtain ⟨x, hxe, h⟩ := ob_some h
    obtain ⟨y, hye, h⟩ := ob_some h
    obtain ⟨c, hc, h⟩ := eqNext_some h
    obtain ⟨x', y', hmx, hmy⟩ := eqIn_mk hc hT
    obtain ⟨u, hu, hu', ex⟩ := part_ok (w := w) hty hT hx hxe hmx
    obtain ⟨v, hv, hv', ey⟩ := part_ok (w := w) hty hT hy hye hmy
    have hr := IH r f.type T x' y' u v c hT (by rw [ex]; exact hmx) (by rw [ey]; exact hmy) hu' hv' (by rw [ex, ey]; exact hc)
    simp only [Op.eqFields, hn f (by simp), ne_eq, not_false_eq_true, if_true, Sem.run_bind, hu, hv, hr, Result.andThen_ok]
    rcases h with ⟨rfl, rfl⟩ | ⟨q', hq', rfl⟩
    · simp [Q.val]
    · rw [Q.and_val]
      have hrest := eqFields_ok hty IH hx hy F q' (fun g hg => hn g (by simp [hg])) hq'
      cases c.val
      · simp
      · simpa using hrest
theorem eqElems_ok {ty : Tys} (hty : TyOk P ty) {n d : Nat} (IH : EqOk P ty w (eqIn ty n) d) {r : Ren} {xs ys : List S} {us vs : List Value} (hx : All2 (VS r) xs us) (hy : All2 (VS r) ys vs) {e : TypeId} {E : Ty} (hE : ty e = some E) :
    ∀ (k i : Nat) (q : Q), eqElems (eqIn ty n) e E.size xs ys k i = some q → (Op.eqItems d e E.size us.toArray vs.toArray (List.range' i k)).run P w = .ok q.val w
  | 0, _, b, h => by cases h; rfl
  | k + 1, i, b, h => by
    simp only [eqElems] at h
    obtain ⟨x, hxe, h⟩ := ob_some h
    obtain ⟨y, hye, h⟩ := ob_some h
    obtain ⟨c, hc, h⟩ := eqNext_some h
    obtain ⟨x', y', hmx, hmy⟩ := eqIn_mk hc hE
    obtain ⟨u, hu, hu', ex⟩ := part_ok (w := w) hty hE hx hxe hmx
    obtain ⟨v, hv, hv', ey⟩ := part_ok (w := w) hty hE hy hye hmy
    have hr := IH r e E x' y' u v c hE (by rw [ex]; exact hmx) (by rw [ey]; exact hmy) hu' hv' (by rw [ex, ey]; exact hc)
    simp only [List.range'_succ, Op.eqItems, Sem.run_bind, hu, hv, hr, Result.andThen_ok]
    rcases h with ⟨rfl, rfl⟩ | ⟨q', hq', rfl⟩
    · simp [Q.val]
    · rw [Q.and_val]
      have hrest := eqElems_ok hty IH hx hy hE k (i + 1) q' hq'
      cases c.val
      · simp
      · simpa using hrest
theorem eqIn_ok {ty : Tys} (hty : TyOk P ty) : ∀ (n k : Nat), EqOk P ty w (eqIn ty n) (k + n)
  | 0, _ => fun r t T x y u v b _ _ _ _ _ h => by cases h
  | n + 1, k => fun r t T x y u v b hT hmx hmy hu hv h => by
    rw [eqIn_succ, hT] at h
    simp only [ob_some'] at h
    obtain ⟨i, d, z, hi, hd, hz, h1, h2, h3, h4, _⟩ := hty t T hT
    have ih := eqIn_ok hty n k
    rw [show k + (n + 1) = (k + n) + 1 from rfl]
    cases hD : T.d <;> simp only [hD, eqD] at h <;> (try (cases h; done))
    · obtain ⟨a, c, e1, e2, h⟩ := one1_some h
      rw [hD] at h1
      exact eqBoolQ_ok h (va_one e1 hu hmx (by simp [hD, D.agg])) (va_one e2 hv hmy (by simp [hD, D.agg])) (hd.trans (by rw [dOf_one h1.symm])) _
    · obtain ⟨a, c, e1, e2, h⟩ := one1_some h
      rw [hD] at h1
      exact eqIntQ_ok h (va_one e1 hu hmx (by simp [hD, D.agg])) (va_one e2 hv hmy (by simp [hD, D.agg])) (hd.trans (by rw [dOf_int h1.symm])) _
    · obtain ⟨b', hb', h⟩ := ob_some h
      cases h
      obtain ⟨a, c, e1, e2, h⟩ := one1_some hb'
      rw [hD] at h1
      exact eqStr_ok h (va_one e1 hu hmx (by simp [hD, D.agg])) (va_one e2 hv hmy (by simp [hD, D.agg])) (hd.trans (by rw [dOf_str h1.symm])) _
    · rename_i m e
      obtain ⟨E, hE, h⟩ := ob_some h
      rw [hD] at h1
      obtain ⟨us, rfl, hus⟩ := va_agg hu hmx (by simp [hD, D.agg])
      obtain ⟨vs, rfl, hvs⟩ := va_agg hv hmy (by simp [hD, D.agg])
      obtain ⟨j, d', z', hj, hd', hz', g1, g2, _⟩ := hty e E hE
      have hce : P.cellsOf e = E.size := by simp [Program.cellsOf, hj, g2]
      rw [run_equalIn_array w _ _ _ (hd.trans (by rw [dOf_arr h1.symm])) hj, hce, List.range_eq_range']
      exact eqElems_ok hty ih hus hvs hE m 0 b h
    · rename_i fs
      cases hcmp : T.cmp <;> rw [hcmp] at h <;> simp only [cond_true, cond_false] at h
      · cases h
      rw [hD] at h1
      obtain ⟨F, rfl, hfs⟩ := dOf_st h1.symm
      rw [hcmp] at h4
      have h4 := h4.symm
      simp only [cmpOf, Bool.and_eq_true] at h4
      obtain ⟨us, rfl, hus⟩ := va_agg hu hmx (by simp [hD, D.agg])
      obtain ⟨vs, rfl, hvs⟩ := va_agg hv hmy (by simp [hD, D.agg])
      have hf : P.fieldsOf t = F := by simp [Program.fieldsOf, hd]
      rw [run_equalIn_struct w _ t _ _ (by rw [hf]; exact hd) (by simpa using h4.1.2), hf]
      rw [hfs] at h
      refine eqFields_ok hty ih hus hvs F.toList b ?_ h
      intro f hfm
      have := List.all_eq_true.1 h4.1.1 f hfm
      simpa using this

theorem A.k_int {x : A} {k : IntKind} {n : Int} (h : x.k = .int k n) : x = .s (.int k n) := by
  cases x with
  | s x => cases x <;> simp [A.k, S.k] at h <;> simp [h]
  | g l => simp [A.k] at h
theorem A.k_str {x : A} {s : List UInt8} (h : x.k = .str s) : x = .s (.str s) := by
  cases x with
  | s x => cases x <;> simp [A.k, S.k] at h <;> simp [h]
  | g l => simp [A.k] at h
/-- == or != with its guard -/
def guarded (op : BinOp) (t : TypeId) (x y : Operand) (u v : Value) : Sem Value := do eqGuard op t x y u v; binOp op t u v
theorem eq_run {op : BinOp} {t : TypeId} {x y : Operand} {u v : Value} {b : Bool} (hop : op = .eql ∨ op = .neq) (hg : (eqGuard op t x y u v).run P w = .ok () w) (he : (Op.equalIn 10000 t u v).run P w = .ok b w)
    (hb : ∀ o, o = .eql ∨ o = .neq → binOp o t u v = if o = .eql then (do pure (.bool (← Op.equal t u v))) else (do pure (.bool (!(← Op.equal t u v))))) : (guarded op t x y u v).run P w = .ok (.bool (if op = .eql then b else !b)) w := by
  simp only [guarded, Sem.run_bind, hg, Result.andThen_ok]
  rw [hb op hop]
  rcases hop with rfl | rfl
  · simp [Op.equal, Op.maxDepth, he]
  · simp [Op.equal, Op.maxDepth, he]
theorem eqCell_ok {ty : Tys} (hty : TyOk P ty) {r : Ren} {op : BinOp} (hop : op = .eql ∨ op = .neq) {t : TypeId} {T : Ty} (hT : ty t = some T) {x y : Operand} {p q : S} {u v : Value} (hu : VS r p u) (hv : VS r q v) {b : Bool} {c : Bool}
    (h : eqCell c T.d p q = some b) (hc : c = true → isConst x = true ∨ isConst y = true) : (guarded op t x y u v).run P w = .ok (.bool (if op = .eql then b else !b)) w := by
  obtain ⟨i, d, z, hi, hd, hz, h1, h2, h3, h4, _⟩ := hty t T hT
  cases hD : T.d <;> simp only [hD, eqCell] at h <;> (try (cases h; done)) <;> rw [hD] at h1
  · have he := eqBool_ok (w := w) h hu hv (hd.trans (by rw [dOf_one h1.symm])) 9999
    obtain ⟨p, q, rfl, rfl, rfl⟩ := eqBool_some h hu hv
    exact eq_run hop (by rw [eqGuard_at_bool]; rfl) he (fun o ho => by rcases ho with rfl | rfl <;> rfl)
  · have he := eqPtr_ok (w := w) h hu hv (hd.trans (by rw [dOf_ptr h1.symm])) 9999
    obtain ⟨m, n, hm, hn, ho, _⟩ := eqNil_some h
    rcases nilPtr_ok hm hu with ⟨rfl, rfl⟩ | ⟨rfl, a, rfl⟩ <;> rcases nilPtr_ok hn hv with ⟨rfl, rfl⟩ | ⟨rfl, a', rfl⟩ <;>
      first | (simp at ho; done) | exact eq_run hop (by rw [eqGuard_at_pointer]; rfl) he (fun o ho => by rcases ho with rfl | rfl <;> rfl)
  · have he := eqSl_ok (w := w) h hu hv (hd.trans (by rw [dOf_sl h1.symm])) 9999
    obtain ⟨m, n, hm, hn, ho, _⟩ := eqNil_some h
    rcases nilSl_ok hm hu with ⟨rfl, rfl⟩ | ⟨rfl, a, _, _, rfl⟩ <;> rcases nilSl_ok hn hv with ⟨rfl, rfl⟩ | ⟨rfl, a', _, _, rfl⟩ <;>
      first | (simp at ho; done) | exact eq_run hop (by rw [eqGuard_at_slice]; rfl) he (fun o ho => by rcases ho with rfl | rfl <;> rfl)
  · cases hcc : c <;> rw [hcc] at h <;> simp only [cond_true, cond_false] at h
    · cases h
    obtain ⟨M, hM⟩ := dOf_ifc h1.symm
    have he := eqIf_ok (w := w) h hu hv (hd.trans (by rw [hM])) 9999
    obtain ⟨m, n, hm, hn, ho, _⟩ := eqNil_some h
    rcases nilIf_ok hm hu with ⟨rfl, rfl⟩ | ⟨rfl, a, _, rfl⟩ <;> rcases nilIf_ok hn hv with ⟨rfl, rfl⟩ | ⟨rfl, a', _, rfl⟩
    · rcases hc hcc with hx | hy
      · cases x <;> simp [isConst] at hx
        exact eq_run hop (by rw [eqGuard_nil_constL]; rfl) he (fun o ho => by rcases ho with rfl | rfl <;> rfl)
      · cases y <;> simp [isConst] at hy
        exact eq_run hop (by rw [eqGuard_nil_constR]; rfl) he (fun o ho => by rcases ho with rfl | rfl <;> rfl)
    · exact eq_run hop (by rw [eqGuard_nil_iface]; rfl) he (fun o ho => by rcases ho with rfl | rfl <;> rfl)
    · exact eq_run hop (by rw [eqGuard_at_iface]; rfl) he (fun o ho => by rcases ho with rfl | rfl <;> rfl)
    · simp at ho
theorem eqTop_ok {ty : Tys} (hty : TyOk P ty) {r : Ren} {op : BinOp} (hop : op = .eql ∨ op = .neq) {t : TypeId} {x y : Operand} {p q : A} {u v : Value} (hu : VA r p u) (hv : VA r q v) {b : Q}
    (h : eqTop ty (isConst x || isConst y) t p q = some b) : (guarded op t x y u v).run P w = .ok (.bool (if op = .eql then b.val else !b.val)) w := by
  unfold eqTop at h
  split at h
  · obtain ⟨T, hT, h⟩ := ob_some h
    obtain ⟨c, hc, h⟩ := ob_some h
    cases h
    exact eqCell_ok hty hop hT hu hv hc (by simp)
  · rename_i xs ys
    obtain ⟨T, hT, h⟩ := ob_some h
    cases hcmp : T.cmp <;> rw [hcmp] at h <;> simp only [cond_true, cond_false] at h
    · cases h
    obtain ⟨X, Y, hX, hY⟩ := eqIn_mk h hT
    obtain ⟨i, d, z, hi, hd, hz, h1, h2, h3, h4, _⟩ := hty t T hT
    rw [hcmp] at h4
    have hg : P.eqGuardType P.depth t = false ∧ T.d.agg = true := by
      have h4 := h4.symm
      cases d <;> simp [cmpOf] at h4 <;> simp [h4, h1, dOf, D.agg]
    have hmx : T.mk' (A.g xs).cells = some (A.g xs) := by simp [Ty.mk', hg.2, A.cells]
    have hmy : T.mk' (A.g ys).cells = some (A.g ys) := by simp [Ty.mk', hg.2, A.cells]
    have he := eqIn_ok (w := w) hty 20 9980 r t T (.g xs) (.g ys) u v b hT hmx hmy hu hv h
    obtain ⟨us, rfl, _⟩ := hu
    obtain ⟨vs, rfl, _⟩ := hv
    exact eq_run hop (run_eqGuard_agg _ _ _ _ _ _ _ hg.1) he (fun o ho => by rcases ho with rfl | rfl <;> rfl)
  · cases h

theorem bin_ok {ty : Tys} (hty : TyOk P ty) {r : Ren} {op : BinOp} {t : TypeId} {x y : Operand} {p q : A} {u v : Value} (hu : VA r p u) (hv : VA r q v) {s : V} (h : bin ty (isConst x || isConst y) op t p q = some s) :
    ∃ z, (guarded op t x y u v).run P w = .ok z w ∧ VV r s z := by
  obtain ⟨s', hk, hs⟩ := ob_some h
  clear h
  have h := hk
  clear hk
  cases hs
  have hh := orO_some h
  clear h
  rcases hh with h | h
  case inr =>
    unfold symK at h
    split at h
    · rename_i p q
      rcases orO_some h with h | h
      · obtain ⟨k, a, c, e1, e2, h⟩ := num2_some h
        obtain ⟨b, hb, h⟩ := ob_some h
        cases h
        obtain ⟨z, hz, hz'⟩ := intOp_ok (P := P) (w := w) t (cmpX_ok hb k) r
        rw [num_ok e1 hu, num_ok e2 hv]
        exact ⟨z, by simp [guarded, eqGuard_at_int, hz], hz'⟩
      · obtain ⟨a, ha, h⟩ := ob_some h
        obtain ⟨c, hc, h⟩ := ob_some h
        rw [txt_ok ha hu, txt_ok hc hv]
        have key : ∀ s'', strBin op (strX Base.sig a) (strX Base.sig c) = some s'' → (∀ z, VS r s'' z → VS r s' z) → ∃ z, (guarded op t x y (.string ⟨(strX Base.sig a).toArray⟩) (.string ⟨(strX Base.sig c).toArray⟩)).run P w = .ok z w ∧ VV r (V.s s') z := fun s'' h1 h2 => by
          obtain ⟨z, hz, hz'⟩ := strBin_ok (P := P) (w := w) t h1 r
          exact ⟨z, by simp [guarded, eqGuard_at_string, hz], h2 z hz'⟩
        split at h
        · obtain ⟨m, hm, h⟩ := ob_some h
          cases hb : Nat.ble m maxStr <;> rw [hb] at h <;> simp only [cond_true, cond_false] at h
          · cases h
          cases h
          have h1 := mxX_ok hm
          have h2 := Nat.le_of_ble_eq_true hb
          rw [strX_app, List.length_append] at h1
          refine key (.str (strX Base.sig a ++ strX Base.sig c)) ?_ fun z hz => ?_
          · unfold strBin cat
            rw [Nat.ble_eq_true_of_le (by omega)]
            rfl
          · show z = _
            rw [strX_app]
            exact hz
        · rcases orO_some h with h | h
          · obtain ⟨b, hb, h⟩ := ob_some h
            cases h
            have e := eqS_ok hb
            exact key _ rfl fun z hz => hz.trans (by rw [beq_dec, ← e])
          · obtain ⟨l, hl, h⟩ := ob_some h
            cases h
            have e := Base.ok.sx _ _ _ (findSx_mem hl)
            exact key _ rfl fun z hz => hz.trans (by rw [beq_dec, e]; congr 1; simp)
        · rcases orO_some h with h | h
          · obtain ⟨b, hb, h⟩ := ob_some h
            cases h
            have e := eqS_ok hb
            exact key _ rfl fun z hz => hz.trans (by rw [beq_dec, ← e])
          · obtain ⟨l, hl, h⟩ := ob_some h
            cases h
            have e := Base.ok.sx _ _ _ (findSx_mem hl)
            exact key _ rfl fun z hz => hz.trans (by rw [beq_dec, e]; congr 1; simp)
        · cases h
    · cases h
  unfold binK at h
  split at h
  · rename_i k a k' b h1 h2
    have e1 := A.k_int h1
    have e2 := A.k_int h2
    subst e1; subst e2
    cases hu; cases hv
    obtain ⟨z, hz, hz'⟩ := intBin_ok (P := P) (w := w) t h r
    exact ⟨z, by simp [guarded, eqGuard_at_int, hz], hz'⟩
  · rename_i a b h1 h2
    have e1 := A.k_str h1
    have e2 := A.k_str h2
    subst e1; subst e2
    cases hu; cases hv
    obtain ⟨z, hz, hz'⟩ := strBin_ok (P := P) (w := w) t h r
    exact ⟨z, by simp [guarded, eqGuard_at_string, hz], hz'⟩
  · unfold eqBin at h
    split at h
    · obtain ⟨b, hb, h⟩ := ob_some h
      cases h
      cases b <;> exact ⟨_, eqTop_ok hty (.inl rfl) hu hv hb, by simp [VV, VA, VS, Q.val]⟩
    · obtain ⟨b, hb, h⟩ := ob_some h
      cases h
      cases b <;> exact ⟨_, eqTop_ok hty (.inr rfl) hu hv hb, by simp [VV, VA, VS, Q.val]⟩
    · cases h
  · cases h

theorem wrap_in (k : IntKind) {n : Int} (h1 : k.min ≤ n) (h2 : n ≤ k.max) : k.wrap n = n := by
  cases k <;> simp [IntKind.min, IntKind.max, IntKind.signed, IntKind.bits] at h1 h2 <;> simp [IntKind.wrap, IntKind.bits, IntKind.signed] <;> (try split) <;> omega
theorem un_ok {r : Ren} {op : UnOp} {x : S} {u : Value} (hu : VS r x u) {s : V} (h : un op x = some s) : ∃ z, (Op.unary op u).run P w = .ok z w ∧ VV r s z := by
  unfold un at h
  split at h
  · cases h; cases hu
    exact ⟨_, rfl, rfl⟩
  · rename_i l b
    cases h; cases hu
    refine ⟨_, rfl, ?_⟩
    show _ = _
    cases b <;> simp
  · obtain ⟨b, hb, h⟩ := ob_some h
    cases h
    rw [isBool_ok hb hu]
    exact ⟨_, rfl, rfl⟩
  · cases h
theorem convInt_ok {ty : Tys} (hty : TyOk P ty) {r : Ren} {src dst : TypeId} {Sx T : Ty} (hS : ty src = some Sx) (hT : ty dst = some T) {x : S} {u : Value} (hu : VS r x u) {s : V} (h : convInt T.d x = some s) : ∃ z, (convert src dst u).run P w = .ok z w ∧ VV r s z := by
  obtain ⟨i, d, z, hi, hd, hz, h1, _⟩ := hty dst T hT
  obtain ⟨i', d', z', hi', hd', hz', h1', _⟩ := hty src Sx hS
  unfold convInt at h
  split at h
  · rename_i k q n hD
    cases h
    cases hu
    rw [hD] at h1
    obtain rfl := dOf_int h1.symm
    refine ⟨_, ?_, rfl⟩
    simp only [convert, Sem.run_bind, run_underlying hd, run_underlying hd', Result.andThen_ok]
    cases d' <;> rfl
  · rename_i s' hD
    cases h
    cases hu
    rw [hD] at h1
    obtain rfl := dOf_str h1.symm
    refine ⟨_, ?_, rfl⟩
    simp only [convert, Sem.run_bind, run_underlying hd, run_underlying hd', Result.andThen_ok]
    cases d' <;> rfl
  · rename_i k q j hD
    obtain ⟨p, hp, h⟩ := ob_some h
    cases hc : (decide (k.min ≤ p.1) && decide (p.2 ≤ k.max)) <;> rw [hc] at h <;> simp only [cond_true, cond_false] at h
    · cases h
    cases h
    cases hu
    rw [hD] at h1
    obtain rfl := dOf_int h1.symm
    have hj := Base.ok.iv _ _ hp
    simp only [Bool.and_eq_true, decide_eq_true_eq] at hc
    have hw : k.wrap (Base.rho j) = Base.rho j := wrap_in k (by omega) (by omega)
    refine ⟨.int k (k.wrap (Base.rho j)), ?_, by rw [hw]; rfl⟩
    simp only [convert, Sem.run_bind, run_underlying hd, run_underlying hd', Result.andThen_ok]
    cases d' <;> rfl
  · rename_i l hD
    cases h
    cases hu
    rw [hD] at h1
    obtain rfl := dOf_str h1.symm
    refine ⟨_, ?_, rfl⟩
    simp only [convert, Sem.run_bind, run_underlying hd, run_underlying hd', Result.andThen_ok]
    cases d' <;> rfl
  · cases h
theorem extract_ok {r : Ren} {v : V} {u : Value} (hu : VV r v u) {i : Nat} {s : V} (h : V.rec (fun _ => none) (fun l => ob (nth l i) vA) none v = some s) : ∃ z, (Instr.extract u i).run P w = .ok z w ∧ VV r s z := by
  cases v with
  | a x => cases h
  | t l =>
    obtain ⟨y, hy, hs⟩ := ob_some (show ob (nth l i) vA = some s from h)
    cases hs
    obtain ⟨vs, rfl, hl⟩ := hu
    obtain ⟨z, hz, hz'⟩ := All2.nth hl hy
    exact ⟨z, by simp [Instr.extract, hz], hz'⟩
  | any => cases h

theorem fieldOf_ok {ty : Tys} (hty : TyOk P ty) {s : TypeId} {f : Nat} {q : Nat × Ty} (h : fieldOf ty s f = some q) :
    ∃ F fd, P.underlying s = some (.struct F) ∧ F[f]? = some fd ∧ fd.offset = q.1 ∧ ty fd.type = some q.2 := by
  obtain ⟨T, hT, h⟩ := ob_some h
  obtain ⟨i, d, z, hi, hd, hz, h1, _⟩ := hty s T hT
  cases hD : T.d <;> rw [hD] at h <;> simp only at h <;> (try (cases h; done))
  rw [hD] at h1
  obtain ⟨F, rfl, hF⟩ := dOf_st h1.symm
  obtain ⟨p, hp, h⟩ := ob_some h
  obtain ⟨G, hG, h⟩ := ob_some h
  cases h
  rw [hF, nth_eq] at hp
  simp only [List.getElem?_map, Array.getElem?_toList, Option.map_eq_some_iff] at hp
  obtain ⟨fd, hfd, rfl⟩ := hp
  exact ⟨F, fd, hd, hfd, rfl, hG⟩
theorem size_run {ty : Tys} (hty : TyOk P ty) {t : TypeId} {T : Ty} (hT : ty t = some T) : (sizeOf t).run P w = .ok T.size w := by
  obtain ⟨i, d, z, hi, hd, hz, h1, h2, _⟩ := hty t T hT
  simp [sizeOf, typeInfo, hi, h2]
theorem Addr.add_at (r : Ren) (l o k : Nat) : (r.at l o).add k = r.at l (o + k) := by
  unfold Addr.add Ren.at
  split
  · simp_all
  · simp [Nat.add_assoc]
theorem fieldAddr_ok {ty : Tys} (hty : TyOk P ty) {r : Ren} {s : TypeId} {f : Nat} {l o : Nat} (hl : r.ok l) {q : Nat × Ty} (hq : fieldOf ty s f = some q) (hz : (q.2.size == 0) = false) :
    ∃ z, (Instr.fieldAt s (.pointer (some (r.at l o))) f).run P w = .ok z w ∧ VV r (V.s (.ptr l (o + q.1))) z := by
  obtain ⟨F, fd, hu, hf, ho, ht⟩ := fieldOf_ok hty hq
  have hs := size_run (w := w) hty ht
  refine ⟨.pointer (some (r.at l (o + q.1))), ?_, hl, rfl⟩
  have h0 : q.2.size ≠ 0 := by simpa using hz
  simp [Instr.fieldAt, run_underlying hu, hf, Instr.sureAddr, fieldPlace, hs, h0, Addr.add_at, ho]
theorem field_ok {ty : Tys} (hty : TyOk P ty) {r : Ren} {s : TypeId} {f : Nat} {cs : List S} {us : List Value} (hc : All2 (VS r) cs us) {q : Nat × Ty} (hq : fieldOf ty s f = some q) {c : List S} (he : ext cs q.1 q.2.size = some c) {x : A} (hm : q.2.mk' c = some x) :
    ∃ z, (Instr.field s (.agg us.toArray) f).run P w = .ok z w ∧ VA r x z := by
  obtain ⟨F, fd, hu, hf, ho, ht⟩ := fieldOf_ok hty hq
  obtain ⟨u, hu1, hu2, _⟩ := part_ok (w := w) hty ht hc he hm
  exact ⟨u, by simp [Instr.field, run_underlying hu, hf, asAgg, ho, hu1], hu2⟩
theorem idx_ok {n : Int} {len i : Nat} (h : idx n len = some i) : n = i ∧ i < len := by
  cases n with
  | ofNat k =>
    have h' : (bif Nat.blt k len then some k else none) = some i := h
    cases hb : Nat.blt k len <;> rw [hb] at h' <;> cases h'
    exact ⟨rfl, Nat.le_of_ble_eq_true hb⟩
  | negSucc k => cases h
theorem bnd_ok {n : Int} {len i : Nat} (h : bnd n len = some i) : n = i ∧ i ≤ len := by
  cases n with
  | ofNat k =>
    have h' : (bif Nat.ble k len then some k else none) = some i := h
    cases hb : Nat.ble k len <;> rw [hb] at h' <;> cases h'
    exact ⟨rfl, Nat.le_of_ble_eq_true hb⟩
  | negSucc k => cases h
theorem elemOf_ok {ty : Tys} (hty : TyOk P ty) {t : TypeId} {E : Ty} (h : elemOf ty t = some E) : ∃ e, P.underlying t = some (.slice e) ∧ ty e = some E := by
  obtain ⟨T, hT, h⟩ := ob_some h
  obtain ⟨i, d, z, hi, hd, hz, h1, _⟩ := hty t T hT
  cases hD : T.d <;> rw [hD] at h <;> simp only at h <;> (try (cases h; done))
  rw [hD] at h1
  exact ⟨_, hd.trans (by rw [dOf_sl h1.symm]), h⟩
theorem arrOf_ok {ty : Tys} (hty : TyOk P ty) {t : TypeId} {q : Nat × Ty} (h : arrOf ty t = some q) : ∃ e, P.underlying t = some (.array q.1 e) ∧ ty e = some q.2 := by
  obtain ⟨T, hT, h⟩ := ob_some h
  obtain ⟨i, d, z, hi, hd, hz, h1, _⟩ := hty t T hT
  cases hD : T.d <;> rw [hD] at h <;> simp only at h <;> (try (cases h; done))
  obtain ⟨E, hE, h⟩ := ob_some h
  cases h
  rw [hD] at h1
  exact ⟨_, hd.trans (by rw [dOf_arr h1.symm]), hE⟩
theorem indexAddr_ok {ty : Tys} (hty : TyOk P ty) {r : Ren} {t : TypeId} {k : IntKind} {n : Int} {x : S} {u : Value} (hu : VS r x u) {s : V} (h : indexAddrS ty t n x = some s) :
    ∃ z, (Instr.indexAt t u (.int k n)).run P w = .ok z w ∧ VV r s z := by
  unfold indexAddrS at h
  split at h
  · rename_i l o
    obtain ⟨q, hq, h⟩ := ob_some h
    obtain ⟨i, hi, h⟩ := ob_some h
    cases h
    obtain ⟨e, he, hE⟩ := arrOf_ok hty hq
    obtain ⟨rfl, hlt⟩ := idx_ok hi
    obtain ⟨hl, rfl⟩ := hu
    have hs := size_run (w := w) hty hE
    refine ⟨_, ?_, hl, rfl⟩
    have h0 : (0 : Int) ≤ (i : Int) ∧ (i : Int) < (q.1 : Int) := by omega
    simp [Instr.indexAt, asIntOf, run_underlying he, Instr.sureAddr, hlt, hs, Addr.add_at]
  · rename_i l o m z c
    obtain ⟨E, hE, h⟩ := ob_some h
    obtain ⟨i, hi, h⟩ := ob_some h
    cases hz : (E.size == z) <;> rw [hz] at h <;> cases h
    obtain ⟨e, he, hE'⟩ := elemOf_ok hty hE
    obtain ⟨rfl, hlt⟩ := idx_ok hi
    have hs := size_run (w := w) hty hE'
    have hz' : E.size = z := by simpa using hz
    have hsl : ∃ cc, u = .slice (some (r.at l o)) m cc ∧ r.ok l := by
      cases c with
      | none => exact ⟨_, hu.2.2.2, hu.1⟩
      | some c => exact ⟨_, hu.2.2.2, hu.1⟩
    obtain ⟨cc, rfl, hl⟩ := hsl
    refine ⟨_, ?_, hl, rfl⟩
    simp [Instr.indexAt, asIntOf, run_underlying he, hlt, hs, Addr.add_at, hz']
  · cases h

theorem indexAddrX_ok {ty : Tys} (hty : TyOk P ty) {r : Ren} {t : TypeId} {i x : S} {n u : Value} (hu : VS r x u) (hn : VS r i n) {s : V} (h : indexAddrX ty t i x = some s) :
    ∃ z, (Instr.indexAt t u n).run P w = .ok z w ∧ VV r s z := by
  unfold indexAddrX at h
  split at h
  · rename_i k j l o
    obtain ⟨q, hq, h⟩ := ob_some h
    obtain ⟨p, hp, h⟩ := ob_some h
    cases hc : (q.2.size == 1 && decide (0 ≤ p.1) && decide (p.2 < q.1)) <;> rw [hc] at h <;> cases h
    simp only [Bool.and_eq_true, decide_eq_true_eq, beq_iff_eq] at hc
    obtain ⟨e, he, hE⟩ := arrOf_ok hty hq
    have hs := size_run (w := w) hty hE
    obtain ⟨h1, h2⟩ := Base.ok.iv _ _ hp
    obtain ⟨hl, rfl⟩ := hu
    cases hn
    have h0 : (0 : Int) ≤ Base.rho j ∧ Base.rho j < (q.1 : Int) := by omega
    refine ⟨_, ?_, hl, h0.1, h0.2, rfl⟩
    obtain ⟨m, hm⟩ : ∃ m : Nat, Base.rho j = m := ⟨_, (Int.toNat_of_nonneg h0.1).symm⟩
    rw [hm] at h0 ⊢
    have hlt : m < q.1 := by omega
    simp [Instr.indexAt, asIntOf, run_underlying he, Instr.sureAddr, hlt, hs, Addr.add_at, hc.1.1]
  · cases h
theorem indexAddrI_ok {ty : Tys} (hty : TyOk P ty) {r : Ren} {t : TypeId} {i x : S} {n u : Value} (hu : VS r x u) (hn : VS r i n) {s : V} (h : indexAddrI ty t i x = some s) :
    ∃ z, (Instr.indexAt t u n).run P w = .ok z w ∧ VV r s z := by
  rcases orO_some h with h | h
  · obtain ⟨m, hm, h⟩ := ob_some h
    unfold S.isInt at hm
    split at hm <;> cases hm
    cases hn
    exact indexAddr_ok hty hu h
  · exact indexAddrX_ok hty hu hn h

theorem index_arr_ok {ty : Tys} (hty : TyOk P ty) {r : Ren} {t : TypeId} {k : IntKind} {n : Int} {cs : List S} {us : List Value} (hc : All2 (VS r) cs us) {s : V} (h : indexArr ty t n cs = some s) :
    ∃ z, (Instr.index t (.agg us.toArray) (.int k n)).run P w = .ok z w ∧ VV r s z := by
  obtain ⟨q, hq, h⟩ := ob_some h
  obtain ⟨i, hi, h⟩ := ob_some h
  obtain ⟨c, he, h⟩ := ob_some h
  obtain ⟨x, hm, h⟩ := ob_some h
  cases h
  obtain ⟨e, hu, hE⟩ := arrOf_ok hty hq
  obtain ⟨rfl, hlt⟩ := idx_ok hi
  have hs := size_run (w := w) hty hE
  obtain ⟨u, hu1, hu2, _⟩ := part_ok (w := w) hty hE hc he hm
  exact ⟨u, by simp [Instr.index, asIntOf, run_underlying hu, hlt, hs, hu1], hu2⟩
theorem isStrT_ok {ty : Tys} (hty : TyOk P ty) {t : TypeId} (h : isStrT ty t = true) : P.underlying t = some .string := by
  unfold isStrT at h
  cases hT : ty t with
  | none => rw [hT] at h; cases h
  | some T =>
    rw [hT] at h
    obtain ⟨i, d, z, hi, hd, hz, h1, _⟩ := hty t T hT
    cases hD : T.d <;> simp only [hD] at h <;> (try (cases h; done))
    rw [hD] at h1
    exact hd.trans (by rw [dOf_str h1.symm])
theorem index_str_ok {ty : Tys} (hty : TyOk P ty) {r : Ren} {t : TypeId} {k : IntKind} {n : Int} {x : S} {u : Value} (hu : VS r x u) {s : V} (h : indexStr ty t n x = some s) :
    ∃ z, (Instr.index t u (.int k n)).run P w = .ok z w ∧ VV r s z := by
  unfold indexStr at h
  split at h
  · rename_i b
    obtain ⟨T, hT, h⟩ := ob_some h
    obtain ⟨i, d, z, hi, hd, hz, h1, _⟩ := hty t T hT
    cases hD : T.d <;> simp only [hD] at h <;> (try (cases h; done))
    rw [hD] at h1
    obtain rfl := dOf_str h1.symm
    obtain ⟨j, hj, h⟩ := ob_some h
    obtain ⟨c, hc, h⟩ := ob_some h
    cases h
    cases hu
    obtain ⟨rfl, hlt⟩ := idx_ok hj
    rw [nth_eq] at hc
    have hb : (⟨b.toArray⟩ : ByteArray)[j]? = some c := by
      have hsz : j < (⟨b.toArray⟩ : ByteArray).size := by rw [ba_size]; exact hlt
      rw [getElem?_pos (⟨b.toArray⟩ : ByteArray) j hsz]
      simp only [List.getElem?_eq_getElem hlt, Option.some.injEq] at hc
      rw [← hc]
      rfl
    exact ⟨_, by simp [Instr.index, asIntOf, run_underlying hd, hb], rfl⟩
  · cases h

def OV : Option Int → Option Value → Prop
  | none, none => True
  | some n, some v => ∃ k, v = .int k n
  | _, _ => False
theorem sliceBounds_ok {isS : Bool} {len cap : Nat} {lo hi : Option Int} {vl vh : Option Value} (hl : OV lo vl) (hh : OV hi vh) {h l : Nat} (e1 : bnd (oi hi len) cap = some h) (e2 : bnd (oi lo 0) h = some l) :
    (Instr.sliceBounds isS len cap vl vh none).run P w = .ok (l, h, cap) w ∧ l ≤ h ∧ h ≤ cap := by
  obtain ⟨g1, g2⟩ := bnd_ok e1
  obtain ⟨g3, g4⟩ := bnd_ok e2
  refine ⟨?_, g4, g2⟩
  cases hi with
  | none =>
    cases vh with
    | some v => exact hh.elim
    | none =>
      have g1 : len = h := by
        have : (len : Int) = h := by simpa [oi] using g1
        omega
      subst g1
      cases lo with
      | none => cases vl with
        | some v => exact hl.elim
        | none =>
          have : l = 0 := by have : (0 : Int) = l := g3; omega
          subst this
          simp [Instr.sliceBounds]
      | some n => cases vl with
        | none => exact hl.elim
        | some v =>
          obtain ⟨k, rfl⟩ := hl
          obtain rfl : n = l := g3
          simp [Instr.sliceBounds, run_sliceBound w k (l : Int) len _ (by omega) (by omega)]
  | some m =>
    cases vh with
    | none => exact hh.elim
    | some v =>
      obtain ⟨k', rfl⟩ := hh
      obtain rfl : m = h := g1
      cases lo with
      | none => cases vl with
        | some v => exact hl.elim
        | none =>
          have : l = 0 := by have : (0 : Int) = l := g3; omega
          subst this
          simp [Instr.sliceBounds, run_sliceBound w k' (h : Int) cap _ (by omega) (by omega)]
      | some n => cases vl with
        | none => exact hl.elim
        | some v =>
          obtain ⟨k, rfl⟩ := hl
          obtain rfl : n = l := g3
          simp [Instr.sliceBounds, run_sliceBound w k (l : Int) h _ (by omega) (by omega), run_sliceBound w k' (h : Int) cap _ (by omega) (by omega)]
theorem sliceBounds3_ok {len cap : Nat} {lo : Option Int} {vl : Option Value} {hn mn : Int} {kh km : IntKind} (hl : OV lo vl) {m h l : Nat} {isS : Bool} (e0 : bnd mn cap = some m) (e1 : bnd hn m = some h) (e2 : bnd (oi lo 0) h = some l) :
    (Instr.sliceBounds isS len cap vl (some (.int kh hn)) (some (.int km mn))).run P w = .ok (l, h, m) w ∧ l ≤ h ∧ h ≤ m := by
  obtain ⟨rfl, g0⟩ := bnd_ok e0
  obtain ⟨rfl, g2⟩ := bnd_ok e1
  obtain ⟨g3, g4⟩ := bnd_ok e2
  refine ⟨?_, g4, g2⟩
  cases lo with
  | none => cases vl with
    | some v => exact hl.elim
    | none =>
      have : l = 0 := by have : (0 : Int) = l := g3; omega
      subst this
      simp [Instr.sliceBounds, run_sliceBound w km (m : Int) cap _ (by omega) (by omega), run_sliceBound w kh (h : Int) m _ (by omega) (by omega)]
  | some n => cases vl with
    | none => exact hl.elim
    | some v =>
      obtain ⟨k, rfl⟩ := hl
      obtain rfl : n = l := g3
      simp [Instr.sliceBounds, run_sliceBound w km (m : Int) cap _ (by omega) (by omega), run_sliceBound w kh (h : Int) m _ (by omega) (by omega), run_sliceBound w k (l : Int) h _ (by omega) (by omega)]

/-- a piece of a row -/
theorem piece_ok {r : Ren} {l o z k h m : Nat} (hl : r.ok l) (hz : 0 < z) (hk : k ≤ h) (hm : h ≤ m) {c : Option Nat} {s : S} (hs : mkSl l o z k h c = some s)
    (hc : c = some (m - k) ∨ (c = none ∧ m = (r.cap l - o) / z ∧ m ≤ maxLen)) : VS r s (.slice (if m = k then some (r.at l o) else some (r.at l (o + k * z))) (h - k) (m - k)) := by
  unfold mkSl at hs
  cases hb : (h == k) <;> rw [hb] at hs <;> cases hs
  · have hne : h ≠ k := by simpa using hb
    rw [if_neg (by omega)]
    rcases hc with rfl | ⟨rfl, hm'⟩
    · exact ⟨hl, hz, by omega, rfl⟩
    · have e : (r.cap l - (o + k * z)) / z = m - k := by
        rw [hm'.1, ← Nat.sub_sub, Nat.mul_comm, Nat.sub_mul_div]
      exact ⟨hl, ⟨hz, by rw [e]; have := hm'.2; omega⟩, by rw [e]; omega, by rw [e]⟩
  · have hne : h = k := by simpa using hb
    subst hne
    rw [Nat.sub_self]
    split
    · exact ⟨_, _, rfl⟩
    · exact ⟨_, _, rfl⟩

theorem bnds_some {len cap : Nat} {lo hi : Option Int} {k : Nat → Nat → Option S} {s : S} (h : bnds len cap lo hi k = some s) : ∃ q p, bnd (oi hi len) cap = some q ∧ bnd (oi lo 0) q = some p ∧ k p q = some s := by
  obtain ⟨q, hq, h⟩ := ob_some h
  obtain ⟨p, hp, h⟩ := ob_some h
  exact ⟨q, p, hq, hp, h⟩
theorem cutAny_ok {r : Ren} {l o n z C : Nat} {c : Option Nat} (hl : r.ok l) (hz : 0 < z) (hc : c = some C ∨ (c = none ∧ C = (r.cap l - o) / z ∧ C ≤ maxLen)) (hn : n ≤ C) {lo hi mx : Option Int} {vl vh vm : Option Value}
    (ol : OV lo vl) (oh : OV hi vh) (om : OV mx vm) {s : S} (hs : cutAny l o n z c lo hi mx = some s) (isS : Bool) :
    ∃ h k m, (Instr.sliceBounds isS n C vl vh vm).run P w = .ok (k, h, m) w ∧ VS r s (.slice (if m = k then some (r.at l o) else some (r.at l (o + k * z))) (h - k) (m - k)) := by
  cases mx with
  | none =>
    cases vm with
    | some v => exact om.elim
    | none =>
      rcases hc with rfl | ⟨rfl, rfl, hmx⟩
      · obtain ⟨h, k, e1, e2, hs⟩ := bnds_some (show bnds n C lo hi (fun k h => mkSl l o z k h (some (C - k))) = some s from hs)
        obtain ⟨hr, g1, g2⟩ := sliceBounds_ok (P := P) (w := w) (isS := isS) ol oh e1 e2
        exact ⟨h, k, C, hr, piece_ok hl hz g1 g2 hs (.inl rfl)⟩
      · obtain ⟨h, k, e1, e2, hs⟩ := bnds_some (show bnds n n lo hi (fun k h => mkSl l o z k h none) = some s from hs)
        have e1' : bnd (oi hi n) ((r.cap l - o) / z) = some h := by
          obtain ⟨g, g'⟩ := bnd_ok e1
          rw [g]
          show (bif Nat.ble h _ then some h else none) = some h
          rw [Nat.ble_eq_true_of_le (Nat.le_trans g' hn)]; rfl
        obtain ⟨hr, g1, g2⟩ := sliceBounds_ok (P := P) (w := w) (isS := isS) ol oh e1' e2
        exact ⟨h, k, _, hr, piece_ok hl hz g1 g2 hs (.inr ⟨rfl, rfl, hmx⟩)⟩
  | some mn =>
    cases vm with
    | none => exact om.elim
    | some v =>
      obtain ⟨km, rfl⟩ := om
      obtain ⟨C', hC', hs⟩ := ob_some (show cutSl3 l o n z c lo hi mn = some s from hs)
      rcases hc with rfl | ⟨rfl, _⟩
      · cases hC'
        obtain ⟨m, e0, hs⟩ := ob_some hs
        obtain ⟨hn', rfl, hs⟩ := ob_some hs
        obtain ⟨h, k, e1, e2, hs⟩ := bnds_some hs
        cases vh with
        | none => exact oh.elim
        | some v =>
          obtain ⟨kh, rfl⟩ := oh
          obtain ⟨hr, g1, g2⟩ := sliceBounds3_ok (P := P) (w := w) (isS := isS) (len := n) (kh := kh) (km := km) ol e0 e1 e2
          exact ⟨h, k, m, hr, piece_ok hl hz g1 g2 hs (.inl rfl)⟩
      · cases hC'
theorem slice_ok {ty : Tys} (hty : TyOk P ty) {r : Ren} {t : TypeId} {lo hi mx : Option Int} {vl vh vm : Option Value} (ol : OV lo vl) (oh : OV hi vh) (om : OV mx vm) {x : S} {u : Value} (hu : VS r x u) {s : S}
    (h : sliceS ty t lo hi mx x = some s) : ∃ z, (Instr.sliceAt t u vl vh vm).run P w = .ok z w ∧ VS r s z := by
  unfold sliceS at h
  split at h
  · rename_i l o
    obtain ⟨q, hq, h⟩ := ob_some h
    cases hz : (q.2.size == 0) <;> rw [hz] at h <;> simp only [cond_true, cond_false] at h
    · have hz' : 0 < q.2.size := Nat.pos_of_ne_zero (by simpa using hz)
      obtain ⟨e, hd, hE⟩ := arrOf_ok hty hq
      obtain ⟨hl, rfl⟩ := hu
      have hsz := size_run (w := w) hty hE
      obtain ⟨hh, k, m, hr, hv⟩ := cutAny_ok (P := P) (w := w) hl hz' (.inl rfl) (Nat.le_refl _) ol oh om h false
      refine ⟨_, ?_, hv⟩
      simp only [Instr.sliceAt, Sem.run_bind, run_underlying hd, Result.andThen_ok, Instr.sureAddr, Sem.run_pure, hr, hsz, Addr.add_at]
      congr 2
      split <;> rfl
    · cases h
  · rename_i b
    cases ht : isStrT ty t <;> rw [ht] at h <;> simp only [cond_true, cond_false] at h
    · cases h
    · have hd := isStrT_ok hty ht
      cases mx with
      | some m => cases h
      | none =>
        cases vm with
        | some v => exact om.elim
        | none =>
          obtain ⟨q, p, e1, e2, hs⟩ := bnds_some (show bnds b.length b.length lo hi (fun l h => some (.str ((b.take h).drop l))) = some s from h)
          cases hs
          cases hu
          obtain ⟨hr, g1, g2⟩ := sliceBounds_ok (P := P) (w := w) (isS := false) ol oh e1 e2
          refine ⟨.string ((⟨b.toArray⟩ : ByteArray).extract p q), ?_, ?_⟩
          · simp [Instr.sliceAt, Instr.slice, run_underlying hd, ba_size, hr]
          · show Value.string _ = Value.string _
            congr 1
            apply ByteArray.ext
            simp [List.drop_take, List.extract_eq_take_drop]
  · rename_i l o n z c
    obtain ⟨E, hE, h⟩ := ob_some h
    cases hz : (E.size == z) <;> rw [hz] at h <;> simp only [cond_true, cond_false] at h
    · cases h
    · have hz' : E.size = z := by simpa using hz
      obtain ⟨e, hd, hE'⟩ := elemOf_ok hty hE
      have hsz := size_run (w := w) hty hE'
      cases c with
      | none =>
        obtain ⟨hl, ⟨hzp, hmx⟩, hn, rfl⟩ := hu
        obtain ⟨hh, k, m, hr, hv⟩ := cutAny_ok (P := P) (w := w) hl hzp (.inr ⟨rfl, rfl, hmx⟩) hn ol oh om h true
        refine ⟨_, ?_, hv⟩
        simp only [Instr.sliceAt, Instr.slice, Sem.run_bind, run_underlying hd, Result.andThen_ok, Sem.run_pure, hr, hsz, hz', Option.map_some, Addr.add_at]
      | some C =>
        obtain ⟨hl, hzp, hn, rfl⟩ := hu
        obtain ⟨hh, k, m, hr, hv⟩ := cutAny_ok (P := P) (w := w) hl hzp (.inl rfl) hn ol oh om h true
        refine ⟨_, ?_, hv⟩
        simp only [Instr.sliceAt, Instr.slice, Sem.run_bind, run_underlying hd, Result.andThen_ok, Sem.run_pure, hr, hsz, hz', Option.map_some, Addr.add_at]
  · obtain ⟨E, hE, h⟩ := ob_some h
    obtain ⟨e, hd, hE'⟩ := elemOf_ok hty hE
    have hsz := size_run (w := w) hty hE'
    cases mx with
    | some m => cases h
    | none =>
      cases vm with
      | some v => exact om.elim
      | none =>
        obtain ⟨q, p, e1, e2, hs⟩ := bnds_some (show bnds 0 0 lo hi (fun _ _ => some .nils) = some s from h)
        cases hs
        cases hu
        obtain ⟨hr, g1, g2⟩ := sliceBounds_ok (P := P) (w := w) (isS := true) ol oh e1 e2
        obtain rfl : q = 0 := by omega
        obtain rfl : p = 0 := by omega
        exact ⟨.slice none 0 0, by simp [Instr.sliceAt, Instr.slice, run_underlying hd, hr, hsz], rfl⟩
  · cases h

theorem foldl_lay (off : Nat) : ∀ (vs : List Value) (k : Nat) (C : Array Value), off + k + vs.length ≤ C.size →
    ((vs.zipIdx k).foldl (fun cs (p : Value × Nat) => cs.setIfInBounds (off + p.2) p.1) C).toList = C.toList.take (off + k) ++ (vs ++ C.toList.drop (off + k + vs.length))
  | [], k, C, _ => by simp
  | v :: vs, k, C, h => by
    simp only [List.length_cons] at h
    simp only [List.zipIdx_cons, List.foldl_cons]
    rw [foldl_lay off vs (k + 1) _ (by simp; omega)]
    simp only [Array.toList_setIfInBounds]
    have e1 : (C.toList.set (off + k) v).take (off + (k + 1)) = C.toList.take (off + k) ++ [v] := by
      rw [show off + (k + 1) = off + k + 1 by omega, List.take_succ_eq_append_getElem (by simp; omega)]
      simp [List.take_set_of_le]
    have e2 : (C.toList.set (off + k) v).drop (off + (k + 1) + vs.length) = C.toList.drop (off + k + (vs.length + 1)) := by
      rw [List.drop_set_of_lt (by omega)]
      congr 1
      omega
    rw [e1, e2]
    simp
theorem fill_ok {r : Ren} (pl : Nat → Option (Nat × Nat)) : ∀ {ps : List (Nat × A)} {qs : List (Nat × Value)} {cs : List S} {C : Array Value} {out : List S}, All2 (fun p q => p.1 = q.1 ∧ VA r p.2 q.2) ps qs → All2 (VS r) cs C.toList →
    fill pl ps cs = some out → ∃ D, Instr.fill pl C qs = some D ∧ All2 (VS r) out D.toList
  | [], [], cs, C, out, _, hc, h => by cases h; exact ⟨C, rfl, hc⟩
  | [], _ :: _, _, _, _, h, _, _ => h.elim
  | _ :: _, [], _, _, _, h, _, _ => h.elim
  | (i, v) :: ps, (j, u) :: qs, cs, C, out, hp, hc, h => by
    obtain ⟨⟨rfl, hv⟩, hp⟩ := hp
    obtain ⟨q, hq, h⟩ := ob_some (show ob (pl i) (fun q => bif v.cells.length == q.2 && Nat.ble (q.1 + q.2) cs.length then ob (lay cs q.1 v.cells) (fill pl ps) else none) = some out from h)
    cases hz : (v.cells.length == q.2 && Nat.ble (q.1 + q.2) cs.length) <;> rw [hz] at h <;> simp only [cond_true, cond_false] at h
    · cases h
    obtain ⟨cs', hl, h⟩ := ob_some h
    have hvc := VA.cells hv
    have hlen := hvc.len
    have hclen := hc.len
    simp only [Array.length_toList] at hlen hclen
    obtain ⟨_, rfl⟩ := lay_eq hl
    simp only [Bool.and_eq_true, beq_iff_eq] at hz
    obtain ⟨hz1, hz2⟩ := hz
    have hz2 := Nat.le_of_ble_eq_true hz2
    have hbad : ¬ (u.cells.size ≠ q.2 ∨ q.1 + u.cells.size > C.size) := by omega
    let D := u.cells.zipIdx.foldl (fun cs (p : Value × Nat) => cs.setIfInBounds (q.1 + p.2) p.1) C
    have hD : D.toList = C.toList.take q.1 ++ (u.cells.toList ++ C.toList.drop (q.1 + u.cells.toList.length)) := by
      show (u.cells.zipIdx.foldl _ C).toList = _
      rw [← Array.foldl_toList, Array.toList_zipIdx]
      have := foldl_lay q.1 u.cells.toList 0 C (by simp; omega)
      simpa using this
    have hc' : All2 (VS r) (cs.take q.1 ++ (v.cells ++ cs.drop (q.1 + v.cells.length))) D.toList := by
      rw [hD]
      refine (hc.take _).app (hvc.app ?_)
      rw [show u.cells.toList.length = v.cells.length by simp; omega]
      exact hc.drop _
    obtain ⟨E, hE, hE'⟩ := fill_ok pl hp hc' h
    refine ⟨E, ?_, hE'⟩
    simp only [Instr.fill, hq]
    rw [if_neg (by simpa using hbad)]
    exact hE
theorem evParts_ok {r : Ren} {fr : Fr} {a : Act} (hf : FR r fr a) : ∀ {l : List (Nat × Operand)} {ps : List (Nat × A)}, evParts fr l = some ps → All2 (fun p q => p.1 = q.1 ∧ VA r p.2 q.2) ps (l.map fun p => (p.1, a.eval p.2))
  | [], ps, h => by cases h; trivial
  | p :: l, ps, h => by
    obtain ⟨y, hy, h⟩ := ob_some (show ob (ob (evA fr p.2) fun v => some (p.1, v)) (fun y => ob (evParts fr l) fun r => some (y :: r)) = some ps from h)
    obtain ⟨q, hq, h⟩ := ob_some h
    cases h
    obtain ⟨v, hv, hy⟩ := ob_some hy
    cases hy
    exact ⟨⟨rfl, evA_ok hf hv⟩, evParts_ok hf hq⟩
theorem mapM_pure' {α β : Type} (f : α → Sem β) (g : α → β) (h : ∀ x w, (f x).run P w = .ok (g x) w) : ∀ (l : List α) (w : World), (l.mapM f).run P w = .ok (l.map g) w
  | [], w => by simp
  | x :: l, w => by
    rw [List.mapM_cons]
    simp [h, mapM_pure' f g h l]
theorem build_ok {ty : Tys} (hty : TyOk P ty) {r : Ren} {t : TypeId} {T : Ty} (hT : ty t = some T) {ps : List (Nat × A)} {qs : List (Nat × Value)} (hp : All2 (fun p q => p.1 = q.1 ∧ VA r p.2 q.2) ps qs) {s : V} (h : buildD ty T ps = some s) :
    ∃ z, (Instr.build t qs.toArray).run P w = .ok z w ∧ VV r s z := by
  obtain ⟨i, d, z, hi, hd, hz, h1, h2, h3, h4, h5⟩ := hty t T hT
  have hzr : (zeroValue t).run P w = .ok z w := by simp [zeroValue, typeInfo, hi, hz]
  unfold buildD at h
  cases hD : T.d <;> simp only [hD] at h <;> (try (cases h; done))
  · rename_i m e
    obtain ⟨E, hE, h⟩ := ob_some h
    obtain ⟨cs, hcs, h⟩ := ob_some h
    cases h
    rw [hD] at h1
    obtain rfl := dOf_arr h1.symm
    obtain ⟨D, hDf, hDc⟩ := fill_ok (r := r) _ hp (h5 r) hcs
    have hs := size_run (w := w) hty hE
    refine ⟨.agg D, ?_, ⟨D.toList, by simp, hDc⟩⟩
    simp [Instr.build, hzr, run_underlying hd, hs, hDf]
  · rename_i fs
    obtain ⟨pl, hpl, h⟩ := ob_some h
    obtain ⟨cs, hcs, h⟩ := ob_some h
    cases h
    rw [hD] at h1
    obtain ⟨F, rfl, hF⟩ := dOf_st h1.symm
    have hpls := mapO_all hpl
    rw [hF] at hpls
    have hm : ∀ (l : List Field) (pl : List (Nat × Nat)), All2 (fun x y => stPlace ty x = some y) (l.map fun f => (f.offset, f.type)) pl →
        ∀ w, (l.mapM fun f => Functor.map (Prod.mk f.offset) (sizeOf f.type) : Sem (List (Nat × Nat))).run P w = .ok pl w := by
      intro l
      induction l with
      | nil => intro pl hp w; cases pl with
        | nil => simp
        | cons y pl => exact hp.elim
      | cons f l ih => intro pl hp w; cases pl with
        | nil => exact hp.elim
        | cons y pl =>
          obtain ⟨hy, hp⟩ := hp
          obtain ⟨G, hG, hy⟩ := ob_some hy
          cases hy
          have hs := size_run (w := w) hty hG
          rw [List.mapM_cons]
          simp [hs, ih pl hp w]
    have hmF : (F.mapM fun f => Functor.map (Prod.mk f.offset) (sizeOf f.type) : Sem (Array (Nat × Nat))).run P w = .ok pl.toArray w := by
      rw [Array.mapM_eq_mapM_toList]
      simp [hm F.toList pl hpls w]
    obtain ⟨D, hDf, hDc⟩ := fill_ok (r := r) _ hp (h5 r) hcs
    refine ⟨.agg D, ?_, ⟨D.toList, by simp, hDc⟩⟩
    have hnth : nth pl = (fun x => pl[x]?) := by funext x; rw [nth_eq]
    rw [hnth] at hDf
    simp [Instr.build, hzr, run_underlying hd, hmF, hDf]
theorem mapPtr_ok {r : Ren} {fr : Fr} {a : Act} (hf : FR r fr a) : ∀ {l : List Operand} {cs : List (Nat × Nat)}, mapO (evPtr fr) l = some cs → (∀ p ∈ cs, r.ok p.1) ∧ l.map a.eval = cs.map fun p => .pointer (some (r.at p.1 p.2))
  | [], cs, h => by cases h; simp
  | x :: l, cs, h => by
    rw [mapO_cons] at h
    obtain ⟨y, hy, h⟩ := ob_some h
    obtain ⟨q, hq, h⟩ := ob_some h
    cases h
    obtain ⟨h1, h2⟩ := evPtr_ok hf hy
    obtain ⟨h3, h4⟩ := mapPtr_ok hf hq
    exact ⟨by simpa using ⟨h1, fun a b hab => h3 (a, b) hab⟩, by simp [h2, h4]⟩
theorem mapS_ok {r : Ren} {fr : Fr} {a : Act} (hf : FR r fr a) : ∀ {l : List Operand} {cs : List S}, mapO (evS fr) l = some cs → All2 (VS r) cs (l.map a.eval)
  | [], cs, h => by cases h; trivial
  | x :: l, cs, h => by
    rw [mapO_cons] at h
    obtain ⟨y, hy, h⟩ := ob_some h
    obtain ⟨q, hq, h⟩ := ob_some h
    cases h
    exact ⟨evS_ok hf hy, mapS_ok hf hq⟩
theorem mapA_ok {r : Ren} {fr : Fr} {a : Act} (hf : FR r fr a) : ∀ {l : List Operand} {cs : List A}, mapO (evA fr) l = some cs → All2 (VA r) cs (l.map a.eval)
  | [], cs, h => by cases h; trivial
  | x :: l, cs, h => by
    rw [mapO_cons] at h
    obtain ⟨y, hy, h⟩ := ob_some h
    obtain ⟨q, hq, h⟩ := ob_some h
    cases h
    exact ⟨evA_ok hf hy, mapA_ok hf hq⟩
theorem maxI_ok {r : Ren} {x y s : S} {u v : Value} (hu : VS r x u) (hv : VS r y v) (h : maxI x y = some s) : ∃ z, (Builtin.max2 u v).run P w = .ok z w ∧ VS r s z := by
  have hh := orO_some h
  clear h
  rcases hh with h | h
  case inr =>
    obtain ⟨k, a, b, e1, e2, h⟩ := num2_some h
    obtain ⟨l, hl, h⟩ := ob_some h
    cases h
    have h1 := num_ok e1 hu
    have h2 := num_ok e2 hv
    subst h1; subst h2
    refine ⟨_, rfl, ?_⟩
    rw [ltX_ok hl]
    by_cases hb : NV a < NV b
    · simp only [hb, decide_true, cond_true, if_true]
      exact hv
    · simp only [hb, decide_false, cond_false, if_false]
      exact hu
  unfold maxI0 at h
  split at h <;> cases h
  cases hu; cases hv
  rename_i k a k' b
  refine ⟨_, rfl, ?_⟩
  show Value.int _ _ = Value.int _ _
  congr 1
  by_cases hb : b > a <;> simp [hb]
theorem minI_ok {r : Ren} {x y s : S} {u v : Value} (hu : VS r x u) (hv : VS r y v) (h : minI x y = some s) : ∃ z, (Builtin.min2 u v).run P w = .ok z w ∧ VS r s z := by
  have hh := orO_some h
  clear h
  rcases hh with h | h
  case inr =>
    obtain ⟨k, a, b, e1, e2, h⟩ := num2_some h
    obtain ⟨l, hl, h⟩ := ob_some h
    cases h
    have h1 := num_ok e1 hu
    have h2 := num_ok e2 hv
    subst h1; subst h2
    refine ⟨_, rfl, ?_⟩
    rw [ltX_ok hl]
    by_cases hb : NV b < NV a
    · simp only [hb, decide_true, cond_true, if_true]
      exact hv
    · simp only [hb, decide_false, cond_false, if_false]
      exact hu
  unfold minI0 at h
  split at h <;> cases h
  cases hu; cases hv
  rename_i k a k' b
  refine ⟨_, rfl, ?_⟩
  show Value.int _ _ = Value.int _ _
  congr 1
  by_cases hb : b < a <;> simp [hb]
theorem foldS_ok {r : Ren} {f : S → S → Option S} {g : Value → Value → Sem Value} (hfg : ∀ {x y s u v}, VS r x u → VS r y v → f x y = some s → ∃ z, (g u v).run P w = .ok z w ∧ VS r s z) :
    ∀ {l : List S} {us : List Value} {x s : S} {u : Value}, VS r x u → All2 (VS r) l us → foldS f x l = some s → ∃ z, (us.foldlM g u).run P w = .ok z w ∧ VS r s z
  | [], [], x, s, u, hu, _, h => by cases h; exact ⟨u, by simp, hu⟩
  | [], _ :: _, _, _, _, _, h, _ => h.elim
  | _ :: _, [], _, _, _, _, h, _ => h.elim
  | y :: l, v :: us, x, s, u, hu, hl, h => by
    obtain ⟨z, hz, h⟩ := ob_some (show ob (f x y) (fun z => foldS f z l) = some s from h)
    obtain ⟨z', hz1, hz2⟩ := hfg hu hl.1 hz
    obtain ⟨q, hq1, hq2⟩ := foldS_ok hfg hz2 hl.2 h
    exact ⟨q, by simp [List.foldlM_cons, hz1, hq1], hq2⟩
theorem findLn_ok {a : List Nat} {j : Nat} : ∀ {l : List (List Nat × Nat)}, findLn a l = some j → (a, j) ∈ l
  | [], h => by cases h
  | (p, i) :: t, h => by
    have h : (bif sameX p a then some i else findLn a t) = some j := h
    cases hc : sameX p a <;> rw [hc] at h <;> simp only [cond_true, cond_false] at h
    · simp [findLn_ok h]
    · cases h
      rw [sameX_ok hc]
      simp
theorem lenXs_ok {ty : Tys} (hty : TyOk P ty) {r : Ren} {t : TypeId} {T : Ty} (hT : ty t = some T) {x : A} {u : Value} (hu : VA r x u) {v : V} (h : lenXs T.d x = some v) (ts : List TypeId) (o : TypeId) :
    ∃ z, (Builtin.len_ (t :: ts).toArray o #[u]).run P w = .ok z w ∧ VV r v z := by
  obtain ⟨i, d, z, hi, hd, hz, h1, _⟩ := hty t T hT
  unfold lenXs at h
  split at h
  · rename_i l hD
    obtain ⟨j, hj, h⟩ := ob_some h
    cases h
    cases hu
    rw [hD] at h1
    obtain rfl := dOf_str h1.symm
    refine ⟨_, by simp [Builtin.len_, run_underlying hd, goInt, ba_size]; rfl, ?_⟩
    show _ = _
    rw [Base.ok.ln _ _ (findLn_ok hj)]
  · cases h
theorem lenD_ok {ty : Tys} (hty : TyOk P ty) {r : Ren} {t : TypeId} {T : Ty} (hT : ty t = some T) {x : A} {u : Value} (hu : VA r x u) {n : Nat} (h : lenD T.d x = some n) (ts : List TypeId) (o : TypeId) :
    (Builtin.len_ (t :: ts).toArray o #[u]).run P w = .ok (.int .i64 n) w := by
  obtain ⟨i, d, z, hi, hd, hz, h1, _⟩ := hty t T hT
  unfold lenD at h
  cases hD : T.d <;> simp only [hD] at h <;> (try (cases h; done)) <;> rw [hD] at h1
  · split at h <;> cases h
    cases hu
    obtain rfl := dOf_str h1.symm
    simp [Builtin.len_, run_underlying hd, goInt, ba_size]
  · obtain rfl := dOf_sl h1.symm
    split at h <;> cases h
    · rename_i l o' z' c
      have : ∃ aa cc, u = .slice (some aa) n cc := by
        cases c with
        | none => exact ⟨_, _, hu.2.2.2⟩
        | some c => exact ⟨_, _, hu.2.2.2⟩
      obtain ⟨aa, cc, rfl⟩ := this
      simp [Builtin.len_, run_underlying hd, goInt]
    · obtain ⟨aa, cc, rfl⟩ := hu
      simp [Builtin.len_, run_underlying hd, goInt]
    · cases hu
      simp [Builtin.len_, run_underlying hd, goInt]
  · cases h
    obtain rfl := dOf_arr h1.symm
    simp [Builtin.len_, run_underlying hd, goInt]
/-! lists -/
structure TabsOk (T : Tabs) : Prop where
  len : ∀ k j, T.lenOf k = some j → ∃ A n c, (Base.lst k).v = .slice A n c ∧ Base.rho j = n
  el : ∀ k i cs, T.elOf k i = some cs → ∃ b off n c el, (Base.lst k).v = .slice (some ⟨b, off, none⟩) n c ∧ 0 ≤ NV i ∧ NV i < n ∧ ElAt k i b (off + (NV i).toNat * cs.length) el ∧ All2 (fun x v => ∀ r, VS r x v) cs el
  add : ∀ i c j, T.addOf i c = some j → Base.rho j = Base.rho i + c ∧ IntKind.i64.min ≤ Base.rho j ∧ Base.rho j ≤ IntKind.i64.max
theorem TabsOk.nought : TabsOk Tabs.nought := ⟨fun _ _ h => (by cases h), fun _ _ _ h => (by cases h), fun _ _ _ h => (by cases h)⟩
theorem addL_ok {T : Tabs} (hT : TabsOk T) {ty : Tys} (hty : TyOk P ty) {r : Ren} {fr : Fr} {a : Act} (hf : FR r fr a) {op : BinOp} {t : TypeId} {x y : Operand} {v : V} (h : addL T fr op x y = some v) :
    ∃ z, (guarded op t x y (a.eval x) (a.eval y)).run P w = .ok z w ∧ VV r v z := by
  unfold addL at h
  split at h
  · obtain ⟨p, hp, h0⟩ := ob_some h
    clear h
    obtain ⟨q, hq, h⟩ := ob_some h0
    clear h0
    have e1 := evS_ok hf hp
    have e2 := evS_ok hf hq
    clear hp hq
    have key : ∃ i c j, p = .xi .i64 i ∧ q = .int .i64 c ∧ T.addOf i c = some j ∧ v = V.s (.xi .i64 j) := by
      revert h
      split
      · intro h
        obtain ⟨j, hj, h⟩ := ob_some h
        cases h
        exact ⟨_, _, j, rfl, rfl, hj, rfl⟩
      · intro h
        cases h
    obtain ⟨i, c, j, rfl, rfl, hj, rfl⟩ := key
    obtain ⟨h1, h2, h3⟩ := hT.add _ _ _ hj
    have e1' : VA r (.s (.int .i64 (Base.rho i))) (a.eval x) := e1
    obtain ⟨z, hz, hz'⟩ := bin_ok (P := P) (w := w) (t := t) (op := .add) (x := x) (y := y) (s := V.s (.int .i64 (IntKind.i64.wrap (Base.rho i + c)))) hty e1' (show VA r (.s (.int .i64 c)) (a.eval y) from e2) rfl
    refine ⟨z, hz, ?_⟩
    have hz' : z = .int .i64 (IntKind.i64.wrap (Base.rho i + c)) := hz'
    show z = .int .i64 (Base.rho j)
    rw [hz', ← h1]
    have h2 : (-9223372036854775808 : Int) ≤ Base.rho j := h2
    have h3 : Base.rho j ≤ (9223372036854775807 : Int) := h3
    rw [IntKind.wrap_i64]
    congr 1
    omega
  · cases h
theorem sumS_ok {op : BinOp} {x y : S} {k : Nat} (h : sumS op x y = some k) : ∃ a b : Int, (∀ r v, VS r x v → v = .int .i64 a) ∧ (∀ r v, VS r y v → v = .int .i64 b) ∧
    ((op = .sub ∧ Base.rho k = a - b) ∨ (op = .add ∧ Base.rho k = a + b)) ∧ IntKind.i64.min ≤ Base.rho k ∧ Base.rho k ≤ IntKind.i64.max := by
  unfold sumS at h
  split at h
  · obtain ⟨h1, h2, h3⟩ := Base.ok.sb _ _ _ (find2_mem h)
    exact ⟨_, _, fun _ _ h => h, fun _ _ h => h, .inl ⟨rfl, h1.symm⟩, h2, h3⟩
  · obtain ⟨h1, h2, h3⟩ := Base.ok.ad _ _ _ (findAd_mem h)
    exact ⟨_, _, fun _ _ h => h, fun _ _ h => h, .inr ⟨rfl, h1.symm⟩, h2, h3⟩
  · obtain ⟨h1, h2, h3⟩ := Base.ok.ad _ _ _ (findAd_mem h)
    exact ⟨_, _, fun _ _ h => h, fun _ _ h => h, .inr ⟨rfl, by rw [← h1]; omega⟩, h2, h3⟩
  · cases h
theorem sumK_ok {ty : Tys} (hty : TyOk P ty) {r : Ren} {fr : Fr} {a : Act} (hf : FR r fr a) {op : BinOp} {t : TypeId} {x y : Operand} {v : V} (h : sumK fr op x y = some v) :
    ∃ z, (guarded op t x y (a.eval x) (a.eval y)).run P w = .ok z w ∧ VV r v z := by
  obtain ⟨p, hp, h⟩ := ob_some h
  obtain ⟨q, hq, h⟩ := ob_some h
  obtain ⟨k, hk, h⟩ := ob_some h
  cases h
  obtain ⟨m, n, e1, e2, hop, h2, h3⟩ := sumS_ok hk
  have e1 := e1 _ _ (evS_ok hf hp)
  have e2 := e2 _ _ (evS_ok hf hq)
  have h2 : (-9223372036854775808 : Int) ≤ Base.rho k := h2
  have h3 : Base.rho k ≤ (9223372036854775807 : Int) := h3
  rcases hop with ⟨rfl, ho⟩ | ⟨rfl, ho⟩
  · obtain ⟨z, hz, hz'⟩ := bin_ok (P := P) (w := w) (t := t) (op := .sub) (x := x) (y := y) (s := V.s (.int .i64 (IntKind.i64.wrap (m - n)))) hty (show VA r (.s (.int .i64 m)) (a.eval x) from e1) (show VA r (.s (.int .i64 n)) (a.eval y) from e2) rfl
    refine ⟨z, hz, ?_⟩
    have hz' : z = .int .i64 (IntKind.i64.wrap (m - n)) := hz'
    show z = .int .i64 (Base.rho k)
    rw [hz', ← ho, IntKind.wrap_i64]
    congr 1
    omega
  · obtain ⟨z, hz, hz'⟩ := bin_ok (P := P) (w := w) (t := t) (op := .add) (x := x) (y := y) (s := V.s (.int .i64 (IntKind.i64.wrap (m + n)))) hty (show VA r (.s (.int .i64 m)) (a.eval x) from e1) (show VA r (.s (.int .i64 n)) (a.eval y) from e2) rfl
    refine ⟨z, hz, ?_⟩
    have hz' : z = .int .i64 (IntKind.i64.wrap (m + n)) := hz'
    show z = .int .i64 (Base.rho k)
    rw [hz', ← ho, IntKind.wrap_i64]
    congr 1
    omega
theorem isRv_some {x : S} {k : Nat} (h : x.isRv = some k) : x = .rv k := by
  cases x <;> simp [S.isRv] at h
  rw [h]
theorem isPe_some {x : S} {p : Nat × N × Nat} (h : x.isPe = some p) : x = .pe p.1 p.2.1 p.2.2 := by
  cases x <;> simp [S.isPe] at h
  rw [← h]
theorem indexL_ok {T : Tabs} (hT : TabsOk T) {ty : Tys} (hty : TyOk P ty) {r : Ren} {fr : Fr} {a : Act} (hf : FR r fr a) {t : TypeId} {x i : Operand} {v : V} (h : indexL T ty fr t x i = some v) :
    ∃ z, (Instr.indexAt t (a.eval x) (a.eval i)).run P w = .ok z w ∧ VV r v z := by
  obtain ⟨y, hy, h⟩ := ob_some h
  obtain ⟨k, hk, h⟩ := ob_some h
  obtain ⟨j, hj, h⟩ := ob_some h
  obtain ⟨n, hn, h⟩ := ob_some h
  obtain ⟨cs, hcs, h⟩ := ob_some h
  obtain ⟨E, hE, h⟩ := ob_some h
  cases hc : Nat.beq E.size cs.length <;> rw [hc] at h <;> cases h
  have hc := Nat.eq_of_beq_eq_true hc
  obtain rfl := isRv_some hk
  obtain ⟨e, he, hE'⟩ := elemOf_ok hty hE
  have hs := size_run (w := w) hty hE'
  obtain ⟨_, _, _, hv1, hv⟩ := evS_ok hf hy
  rw [← hv1] at hv
  have hi := num_ok hn (evS_ok hf hj)
  obtain ⟨b, off, m, c, el, h1, h2, h3, h4, h5⟩ := hT.el _ _ _ hcs
  obtain ⟨q, hq⟩ : ∃ q : Nat, NV n.2 = q := ⟨_, (Int.toNat_of_nonneg h2).symm⟩
  refine ⟨.pointer (some ⟨b, off + q * cs.length, none⟩), ?_, b, off + q * cs.length, el, by rw [hq] at h4; simpa using h4, rfl⟩
  rw [hv, h1, hi, hq]
  have hlt : q < m := by omega
  simp [Instr.indexAt, asIntOf, run_underlying he, hlt, hs, hc, Addr.add]
theorem fieldL_ok {ty : Tys} (hty : TyOk P ty) {r : Ren} {fr : Fr} {a : Act} (hf : FR r fr a) {s : TypeId} {x : Operand} {f : Nat} {v : V} (h : fieldL ty fr s x f = some v) :
    ∃ z, (Instr.fieldAt s (a.eval x) f).run P w = .ok z w ∧ VV r v z := by
  obtain ⟨y, hy, h⟩ := ob_some h
  obtain ⟨p, hp, h⟩ := ob_some h
  obtain ⟨q, hq, h⟩ := ob_some h
  cases hz : (q.2.size == 0) <;> rw [hz] at h <;> cases h
  obtain rfl := isPe_some hp
  obtain ⟨b, off, el, h1, h2⟩ := evS_ok hf hy
  obtain ⟨F, fd, hu, hff, ho, ht⟩ := fieldOf_ok hty hq
  have hs := size_run (w := w) hty ht
  have h0 : q.2.size ≠ 0 := by simpa using hz
  refine ⟨.pointer (some ⟨b, off + (p.2.2 + q.1), none⟩), ?_, b, off, el, h1, rfl⟩
  rw [h2]
  simp [Instr.fieldAt, run_underlying hu, hff, Instr.sureAddr, fieldPlace, hs, h0, ho, Addr.add, Nat.add_assoc]
theorem loadL_ok {T : Tabs} (hT : TabsOk T) (hw : Here w) {ty : Tys} (hty : TyOk P ty) {r : Ren} {fr : Fr} {a : Act} (hf : FR r fr a) {t : TypeId} {x : Operand} {v : V} (h : loadL T ty fr t x = some v) :
    ∃ z, (Instr.loadAt t (a.eval x)).run P w = .ok z w ∧ VV r v z := by
  obtain ⟨y, hy, h⟩ := ob_some h
  obtain ⟨p, hp, h⟩ := ob_some h
  obtain ⟨cs, hcs, h⟩ := ob_some h
  obtain ⟨U, hU, h⟩ := ob_some h
  obtain ⟨c, hc, h⟩ := ob_some h
  obtain ⟨m, hm, h⟩ := ob_some h
  cases h
  obtain rfl := isPe_some hp
  obtain ⟨b, off, el, h1, h2⟩ := evS_ok hf hy
  obtain ⟨_, _, _, _, el', _, _, _, h4, h5⟩ := hT.el _ _ _ hcs
  obtain rfl : el' = el := Option.some.inj (h4.1.symm.trans h1.1)
  have h5 : All2 (VS r) cs el' := h5.imp fun _ _ h => h r
  obtain ⟨hl, rfl⟩ := ext_eq hc
  have hcells : ∀ j u, ((el'.drop p.2.2).take U.size)[j]? = some u → w.cell? ⟨b, off + p.2.2 + j, none⟩ = some u := fun j u hj => by
    rw [Nat.add_assoc]
    refine h1.2 _ _ ?_ w hw
    rw [List.getElem?_take] at hj
    split at hj
    · rwa [List.getElem?_drop] at hj
    · cases hj
  have g1 : All2 (VS r) ((cs.drop p.2.2).take U.size) ((el'.drop p.2.2).take U.size) := (h5.drop _).take _
  obtain ⟨i, d, z, hi', hd, hz, k1, k2, _⟩ := hty t U hU
  have hsz : (sizeOf t).run P w = .ok U.size w := size_run hty hU
  have ha : (isAgg t).run P w = .ok U.d.agg w := by
    rw [k1]; unfold isAgg; cases d <;> simp [run_underlying hd, dOf, D.agg]
  rw [h2]
  have hlen : ((el'.drop p.2.2).take U.size).length = U.size := by
    have := g1.len
    rw [← this, List.length_take, List.length_drop]
    omega
  clear h5 h4 hy hp
  generalize (cs.drop p.2.2).take U.size = c at *
  generalize (el'.drop p.2.2).take U.size = us at *
  unfold Ty.mk' at hm
  cases hg : U.d.agg <;> simp only [hg, cond_true, cond_false] at hm
  · match c, us, g1, hm with
    | [y], [u], g1, hm =>
      cases hm
      have hc0 := hcells 0 u rfl
      simp only [Nat.add_zero] at hc0
      exact ⟨u, by simp [Instr.loadAt, Instr.sureAddr, loadVar, ha, hg, hc0], g1.1⟩
  · cases hm
    have hld : (loadCells ⟨b, off + p.2.2, none⟩ U.size).run P w = .ok us.toArray w := by
      rw [← hlen]
      exact run_loadCells_list w _ us (fun j v hv => by rw [Addr.add_lit]; exact hcells j v hv)
    exact ⟨.agg us.toArray, by simp [Instr.loadAt, Instr.sureAddr, loadVar, ha, hg, hsz, hld], _, rfl, g1⟩
theorem lenL_ok {T : Tabs} (hT : TabsOk T) {ty : Tys} (hty : TyOk P ty) {r : Ren} {fr : Fr} {a : Act} (hf : FR r fr a) {c : Call} {v : V} (h : lenL T ty fr c.argTypes.toList c.args.toList = some v) (o : TypeId) (cs : Array Bool) :
    ∃ u, (builtin .len c.argTypes o cs (c.args.map a.eval)).run P w = .ok (.value u) w ∧ VV r v u := by
  unfold lenL at h
  split at h
  · rename_i t ts x ht hx
    obtain ⟨E, hE, h⟩ := ob_some h
    obtain ⟨y, hy, h⟩ := ob_some h
    obtain ⟨k, hk, h⟩ := ob_some h
    obtain ⟨j, hj, h⟩ := ob_some h
    cases h
    obtain rfl := isRv_some hk
    obtain ⟨e, he, hE'⟩ := elemOf_ok hty hE
    obtain ⟨A, n, cc, h1, h2⟩ := hT.len _ _ hj
    obtain ⟨_, _, _, hv1, hv⟩ := evS_ok hf hy
    rw [← hv1, h1] at hv
    have e1 : c.argTypes = (t :: ts).toArray := by rw [← ht]
    have e2 : c.args = #[x] := by cases hca : c.args; rw [hca] at hx; simp at hx; rw [hx]
    refine ⟨.int .i64 n, ?_, by show _ = _; rw [h2]⟩
    rw [e1, e2]
    simp [builtin, Builtin.len_, hv, run_underlying he, goInt]
  · cases h
end
end Go.Proofs.YtaamdiknefodgaaDoor.Am
