/- Regions whose order is drawn: what a step of the machine tells. (No program in sight.) -/
import Derived.Test.YtaamdiknefodgaaDoorAmRun
namespace Go.Proofs.YtaamdiknefodgaaDoor.Am
set_option linter.unusedSectionVars false
variable [Base]

/-! the machine looks at the slots of the operands alone -/
section
variable {C : Ctx} {fr fr' : Fr}
theorem evA_congr {x : Operand} (h : ev fr x = ev fr' x) : evA fr x = evA fr' x := by unfold evA; rw [h]
theorem evS_congr {x : Operand} (h : ev fr x = ev fr' x) : evS fr x = evS fr' x := by unfold evS; rw [evA_congr h]
theorem evInt_congr {x : Operand} (h : ev fr x = ev fr' x) : evInt fr x = evInt fr' x := by unfold evInt; rw [evS_congr h]
theorem evPtr_congr {x : Operand} (h : ev fr x = ev fr' x) : evPtr fr x = evPtr fr' x := by unfold evPtr; rw [evS_congr h]
theorem mapO_congr {α β : Type} {f g : α → Option β} : ∀ {l : List α}, (∀ x ∈ l, f x = g x) → mapO f l = mapO g l
  | [], _ => rfl
  | x :: l, h => by rw [mapO_cons, mapO_cons, h x (by simp), mapO_congr fun y hy => h y (by simp [hy])]
theorem optInt_congr {x : Option Operand} (h : ∀ y ∈ x, ev fr y = ev fr' y) : optInt fr x = optInt fr' x := by
  cases x with
  | none => rfl
  | some y => show ob (evInt fr y) _ = ob (evInt fr' y) _; rw [evInt_congr (h y rfl)]
theorem evParts_congr {ps : List (Nat × Operand)} (h : ∀ p ∈ ps, ev fr p.2 = ev fr' p.2) : evParts fr ps = evParts fr' ps :=
  mapO_congr fun p hp => by rw [evA_congr (h p hp)]
theorem appOp_congr {ty : Tys} {h : Heap} {ts : List TypeId} {xs : List Operand} {k : Ty → Nat → List S → S → R} (hx : ∀ x ∈ xs, ev fr x = ev fr' x) : appOp ty fr h ts xs k = appOp ty fr' h ts xs k := by
  unfold appOp
  split
  · rename_i t u s x
    rw [evS_congr (hx s (by simp)), evS_congr (hx x (by simp))]
  · rfl
theorem numO'_congr {x : Option Operand} (hx : ∀ y ∈ x, ev fr y = ev fr' y) : numO' fr x = numO' fr' x := by
  cases x with
  | none => rfl
  | some y =>
    show ob (evS fr y) (fun x => ob x.num fun p => some (some p.2)) = ob (evS fr' y) (fun x => ob x.num fun p => some (some p.2))
    rw [evS_congr (hx y rfl)]
theorem lenL_congr {T : Tabs} {ty : Tys} {ts : List TypeId} {xs : List Operand} (hx : ∀ x ∈ xs, ev fr x = ev fr' x) : lenL T ty fr ts xs = lenL T ty fr' ts xs := by
  unfold lenL
  split
  · rw [evS_congr (hx _ (by simp))]
  · rfl
theorem pureBuiltin_congr {ty : Tys} {c : Call} {b : Builtin} (hargs : ∀ x ∈ c.args.toList, ev fr x = ev fr' x) : pureBuiltin ty fr c b = pureBuiltin ty fr' c b := by
  unfold pureBuiltin lenOp foldOp
  rw [mapO_congr fun x hxa => evS_congr (hargs x hxa)]
  split
  · split
    · rename_i x _ hl
      rw [evA_congr (hargs x (by simp [hl]))]
    · rfl
  · rfl
  · rfl
  · rfl
theorem how_congr {h hw : Heap} {fl : Nat} {o : Op} (hx : ∀ x ∈ o.operands, ev fr x = ev fr' x) : how C fr h hw fl o = how C fr' h hw fl o := by
  cases o <;> simp only [how, Op.operands] at hx ⊢
  case move x => rw [hx x (by simp)]
  case assign x => rw [hx x (by simp)]
  case pick c a b => unfold pickOp; rw [evS_congr (hx c (by simp)), hx a (by simp), hx b (by simp)]
  case box t x => unfold boxOp; rw [evA_congr (hx x (by simp))]
  case build t ps => unfold buildOp; rw [evParts_congr fun p hp => hx p.2 (by simp; exact ⟨p.1, by simpa using hp⟩)]
  case buildSlice t l ps => unfold buildSliceOp; rw [evParts_congr fun p hp => hx p.2 (by simp; exact ⟨p.1, by simpa using hp⟩)]
  case load t x => unfold howLoad loadL loadOp; rw [evPtr_congr (hx x (by simp)), evS_congr (hx x (by simp))]
  case store t x v => unfold storeOp storeXOp; rw [evPtr_congr (hx x (by simp)), evA_congr (hx v (by simp)), evS_congr (hx x (by simp)), evS_congr (hx v (by simp))]
  case nilCheck x => unfold nilCheckOp; rw [evPtr_congr (hx x (by simp))]
  case binOp op t x y t' => unfold binOp' addL sumK; rw [evA_congr (hx x (by simp)), evA_congr (hx y (by simp)), evS_congr (hx x (by simp)), evS_congr (hx y (by simp))]
  case unOp op t x => unfold unOp'; rw [evS_congr (hx x (by simp))]
  case convert s d x => unfold howConv convOp convQ; rw [evS_congr (hx x (by simp))]
  case makeFunc fn f c =>
    unfold makeFuncOp
    split
    · rw [mapO_congr fun x hxc => evPtr_congr (hx x (by simp at hxc ⊢; exact .inr hxc))]
    · rfl
  case makeSlice t l c => unfold makeSliceOp; rw [evInt_congr (hx l (by simp)), evInt_congr (hx c (by simp))]
  case slice t x l h m =>
    unfold sliceOp cutK
    rw [evS_congr (hx x (by simp)), optInt_congr (x := l) (fun y hy => hx y (by simp [Option.mem_def.1 hy])), optInt_congr (x := h) (fun y hy => hx y (by simp [Option.mem_def.1 hy])), optInt_congr (x := m) (fun y hy => hx y (by simp [Option.mem_def.1 hy])),
      numO'_congr (x := l) (fun y hy => hx y (by simp [Option.mem_def.1 hy])), numO'_congr (x := h) (fun y hy => hx y (by simp [Option.mem_def.1 hy]))]
  case fieldAddr s x f => unfold fieldAddrOp fieldL; rw [evPtr_congr (hx x (by simp)), evS_congr (hx x (by simp))]
  case field s x f => unfold fieldOp; rw [evA_congr (hx x (by simp))]
  case indexAddr t x i => unfold indexAddrOp indexL; rw [evS_congr (hx x (by simp)), evS_congr (hx i (by simp))]
  case index t x i => unfold indexOp; rw [evA_congr (hx x (by simp)), evInt_congr (hx i (by simp))]
  case extract t i => unfold extractOp; rw [hx t (by simp)]
  case call c =>
    have hargs : ∀ x ∈ c.args.toList, ev fr x = ev fr' x := fun x hxa => hx x (by simp [Call.operands]; exact .inr (by simpa using hxa))
    cases hc : c.callee <;> simp only [howCall]
    rename_i b
    unfold howBuiltin
    split
    · unfold appQOp appWOp
      rw [appOp_congr hargs, appOp_congr hargs]
    · unfold clearOp
      split
      · rename_i x _ hl
        rw [evS_congr (hargs x (by simp [hl]))]
      · rfl
    · rw [pureBuiltin_congr hargs, lenL_congr hargs]
    · rw [pureBuiltin_congr hargs]
theorem callOp_congr {h : Heap} {fl : Nat} {f : Operand} {as : List Operand} (hf : ev fr f = ev fr' f) (ha : ∀ x ∈ as, ev fr x = ev fr' x) : callOp C fr h fl f as = callOp C fr' h fl f as := by
  unfold callOp
  rw [evS_congr hf, mapO_congr fun x hx => evA_congr (ha x hx)]
theorem how_c_mem {h hw : Heap} {fl : Nat} {o : Op} {f : Operand} {as : List Operand} (hh : how C fr h hw fl o = .c f as) : f ∈ o.operands ∧ ∀ x ∈ as, x ∈ o.operands := by
  cases o <;> simp only [how] at hh <;> (try (cases hh; done))
  case load t x => unfold howLoad at hh; split at hh <;> cases hh
  case convert s d x => unfold howConv at hh; split at hh <;> cases hh
  case call c =>
    cases hc : c.callee <;> simp only [hc, howCall] at hh <;> (try (cases hh; done))
    · cases hh
      exact ⟨by simp [Op.operands, Call.operands, hc], fun x hx => by simp [Op.operands, Call.operands]; exact .inr (by simpa using hx)⟩
    · unfold howBuiltin at hh
      split at hh <;> cases hh
end

/-! edges, pairs -/
theorem testBit_shl1 (j k : Nat) : Nat.testBit (Nat.shiftLeft 1 k) j = decide (j = k) := by
  show Nat.testBit (1 <<< k) j = _
  rw [Nat.shiftLeft_eq, Nat.one_mul, Nat.testBit_two_pow]
  exact decide_eq_decide.2 ⟨fun h => h.symm, fun h => h.symm⟩
theorem mask_fold (an : List Nat) (j : Nat) : ∀ (es : List Edge) (s : Nat),
    Nat.testBit (es.foldl (fun s e => bif Region.binds .any e then Nat.lor (Nat.lor s (Nat.shiftLeft 1 e.on)) ((nth an e.on).getD 0) else s) s) j = true ↔
      Nat.testBit s j = true ∨ ∃ e ∈ es, Region.binds .any e = true ∧ (e.on = j ∨ Nat.testBit ((nth an e.on).getD 0) j = true)
  | [], s => by simp
  | e :: es, s => by
    rw [List.foldl_cons, mask_fold an j es]
    cases hb : Region.binds .any e
    · simp [hb]
    · have e1 : Nat.testBit (Nat.lor (Nat.lor s (Nat.shiftLeft 1 e.on)) ((nth an e.on).getD 0)) j = (Nat.testBit s j || decide (j = e.on) || Nat.testBit ((nth an e.on).getD 0) j) := by
        show Nat.testBit ((s ||| Nat.shiftLeft 1 e.on) ||| (nth an e.on).getD 0) j = _
        rw [Nat.testBit_or, Nat.testBit_or, testBit_shl1]
      simp only [cond_true, e1, Bool.or_eq_true, decide_eq_true_eq]
      constructor
      · rintro (((h | h) | h) | ⟨e', h1, h2⟩)
        · exact .inl h
        · exact .inr ⟨e, by simp, hb, .inl h.symm⟩
        · exact .inr ⟨e, by simp, hb, .inr h⟩
        · exact .inr ⟨e', by simp [h1], h2⟩
      · rintro (h | ⟨e', h1, h2, h3⟩)
        · exact .inl (.inl (.inl h))
        · rcases List.mem_cons.1 h1 with rfl | h1
          · rcases h3 with h3 | h3
            · exact .inl (.inl (.inr h3.symm))
            · exact .inl (.inr h3)
          · exact .inr ⟨e', h1, h2, h3⟩
theorem mask_spec (an : List Nat) (o : Oper) (j : Nat) : Nat.testBit (maskOf an o) j = true ↔ ∃ e ∈ o.after.toList, Region.binds .any e = true ∧ (e.on = j ∨ Nat.testBit ((nth an e.on).getD 0) j = true) := by
  unfold maskOf
  rw [mask_fold]
  simp
theorem pairs_spec (ops : List Oper) (o : Oper) (c m : Nat) : ∀ (xs : List Oper) (ks : List Nat) (i : Nat), pairsOk ops o c m i xs ks = true → ∀ j x k, xs[j]? = some x → ks[j]? = some k →
    Nat.testBit m (i + j) = true ∨ (apartV ops x o = true ∧ (c = 2 → k = 0) ∧ (k = 2 → c = 0))
  | [], _, _, _, j, x, k, h, _ => by simp at h
  | _ :: _, [], _, _, j, x, k, _, h => by simp at h
  | y :: xs, q :: ks, i, h, j, x, k, h1, h2 => by
    simp only [pairsOk, Bool.and_eq_true] at h
    cases j with
    | zero =>
      simp at h1 h2
      subst h1; subst h2
      have := h.1
      simp only [Bool.or_eq_true, Bool.and_eq_true, Bool.not_eq_true', Bool.and_eq_false_iff] at this
      rcases this with h | ⟨⟨h, h'⟩, h''⟩
      · exact .inl h
      · refine .inr ⟨h, fun e => ?_, fun e => ?_⟩
        · subst e
          rcases h' with h' | h'
          · simp at h'
          · simpa using h'
        · subst e
          rcases h'' with h' | h'
          · simp at h'
          · simpa using h'
    | succ j =>
      have := pairs_spec ops o c m xs ks (i + 1) h.2 j x k (by simpa using h1) (by simpa using h2)
      rwa [show i + 1 + j = i + (j + 1) by omega] at this
theorem apart_spec {ops : List Oper} {x y : Oper} (h : apartV ops x y = true) : (∀ d, x.dst = some d → d ∉ lookV ops y ∧ y.dst ≠ some d) ∧ (∀ d, y.dst = some d → d ∉ lookV ops x) := by
  unfold apartV at h
  simp only [Bool.and_eq_true] at h
  constructor
  · intro d hd
    have h1 := h.1
    rw [hd] at h1
    simp only [Bool.and_eq_true, List.all_eq_true] at h1
    refine ⟨fun hm => by have := h1.1 d hm; simp at this, fun e => ?_⟩
    have h2 := h1.2
    rw [e] at h2
    simp at h2
  · intro d hd
    have h1 := h.2
    rw [hd] at h1
    simp only [List.all_eq_true] at h1
    exact fun hm => by have := h1 d hm; simp at this
theorem look_op {ops : List Oper} {o : Oper} {t : Tmp} (h : .tmp t ∈ o.op.operands.toList) : t ∈ lookV ops o := by
  unfold lookV
  rw [List.mem_append]
  left
  rw [List.mem_filterMap]
  exact ⟨.tmp t, h, rfl⟩
theorem look_guard {ops : List Oper} {o : Oper} {j : Nat} {b : Bool} (h : o.guard = some (j, b)) {g : Oper} (hg : nth ops j = some g) {d : Tmp} (hd : g.dst = some d) : d ∈ lookV ops o := by
  unfold lookV
  rw [List.mem_append]
  right
  rw [h]
  simp [hg, hd]
/-- an operation sees the slots that it looks at -/
theorem ev_look {ops : List Oper} {o : Oper} {fr fr' : Fr} (h : ∀ t ∈ lookV ops o, nth fr t = nth fr' t) : ∀ x ∈ o.op.operands, ev fr x = ev fr' x := by
  intro x hx
  cases x with
  | tmp t => exact h t (look_op (by simpa using hx))
  | const v => rfl
  | global g => rfl
  | func f => rfl
theorem wanted_look {ops : List Oper} {o : Oper} {fr fr' : Fr} (h : ∀ t ∈ lookV ops o, nth fr t = nth fr' t) : wantedV ops o fr = wantedV ops o fr' := by
  unfold wantedV
  cases hg : o.guard with
  | none => rfl
  | some g =>
    obtain ⟨j, b⟩ := g
    have : yieldedV ops fr j = yieldedV ops fr' j := by
      unfold yieldedV
      cases hj : nth ops j with
      | none => rfl
      | some q =>
        simp only [ob_some']
        cases hd : q.dst with
        | none => rfl
        | some d => simp only [ob_some', h d (look_guard hg hj hd)]
    simp only [this]

theorem guard_look' {ops : List Oper} {o : Oper} {fr fr' : Fr} (h : ∀ t ∈ lookV ops o, nth fr t = nth fr' t) : guardOk ops o fr = guardOk ops o fr' := by
  unfold guardOk
  cases hg : o.guard with
  | none => rfl
  | some g =>
    obtain ⟨j, b⟩ := g
    cases hj : nth ops j with
    | none => simp only [hj]
    | some q =>
      cases hd : q.dst with
      | none => simp only [hj, hd]
      | some d => simp only [hj, hd, h d (look_guard hg hj hd)]

/-- a load from a memory that stays -/
def Fre (C : Ctx) (fr : Fr) (h0 : Heap) (o : Oper) (l : Nat) (v : V) : Prop := ∃ t x T off cs y, o.op = .load t x ∧ C.ty t = some T ∧ evPtr fr x = some (l, off) ∧ h0.read l off T.size = some cs ∧ T.mk' cs = some y ∧ v = .a y
/-- one step of the machine at a region that draws; 'q': the block of a load that may come at any time -/
structure Step (C : Ctx) (fl : Nat) (ops : List Oper) (h0 : Heap) (σ : RS) (o : Oper) (m : Nat) (σ' : RS) (k : Nat) (v : V) (D : Hp) (h' : Heap) (q : Option Nat) : Prop where
  edges : edgesOk σ.os.length o = true
  guard : guardOk ops o σ.fr = true
  pairs : pairsOk ops o k m 0 σ.os σ.cl = true
  fr : σ'.fr = putV σ.fr o.dst v
  an : σ'.an = σ.an ++ [m]
  cl : σ'.cl = σ.cl ++ [k]
  os : σ'.os = σ.os ++ [o]
  nx : σ.nx ≤ σ'.nx
  kind : (k = 0 ∧ D = [] ∧ σ'.hb = σ.hb ∧ σ'.ds = σ.ds ++ [[]] ∧ σ'.nx = σ.nx ∧ ((wantedV ops o σ.fr = false ∧ v = undef) ∨ (wantedV ops o σ.fr = true ∧ ∃ h hw fl, how C σ.fr h hw fl o.op = .p (some v)) ∨ (wantedV ops o σ.fr = true ∧ ∃ l, q = some l ∧ Fre C σ.fr h0 o l v))) ∨
    (k = 1 ∧ D = newD σ.nx h'.m ∧ σ'.hb = σ.hb ∧ σ'.ds = σ.ds ++ [D] ∧ σ'.nx = h'.next ∧ wantedV ops o σ.fr = true ∧
      ∃ w, how C σ.fr ⟨selD m 0 σ.ds ++ σ.hb, σ.nx⟩ ⟨σ.ds.flatten ++ σ.hb, σ.nx⟩ fl o.op = w ∧
        (w = .q (some (v, h')) ∨ (∃ r, w = .qw (some (v, h')) r) ∨ ∃ f as, w = .c f as ∧ callOp C σ.fr ⟨selD m 0 σ.ds ++ σ.hb, σ.nx⟩ σ.nx f as = some (v, h'))) ∨
    (k = 2 ∧ D = [] ∧ σ'.hb = h'.m ∧ σ'.ds = (σ.ds ++ [[]]).map (fun _ => []) ∧ σ'.nx = h'.next ∧ wantedV ops o σ.fr = true ∧
      ∃ w, how C σ.fr ⟨selD m 0 σ.ds ++ σ.hb, σ.nx⟩ ⟨σ.ds.flatten ++ σ.hb, σ.nx⟩ fl o.op = w ∧
        (w = .w (some (v, h')) ∨ (∃ r, w = .qw r (some (v, h'))) ∨ ∃ f as, w = .c f as ∧ callOp C σ.fr ⟨σ.ds.flatten ++ σ.hb, σ.nx⟩ fl f as = some (v, h')))
theorem endP_some {C : Ctx} {fl : Nat} {ops : List Oper} {h0 : Heap} {q : Option Nat} {σ σ' : RS} {o : Oper} {m : Nat} {v : V} (he : edgesOk σ.os.length o = true) (hgo : guardOk ops o σ.fr = true) (h : endP ops σ o m v = some σ')
    (hk : (wantedV ops o σ.fr = false ∧ v = undef) ∨ (wantedV ops o σ.fr = true ∧ ∃ h hw fl, how C σ.fr h hw fl o.op = .p (some v)) ∨ (wantedV ops o σ.fr = true ∧ ∃ l, q = some l ∧ Fre C σ.fr h0 o l v)) : Step C fl ops h0 σ o m σ' 0 v [] ⟨[], 0⟩ q := by
  unfold endP at h
  cases hp : pairsOk ops o 0 m 0 σ.os σ.cl <;> rw [hp] at h <;> cases h
  exact ⟨he, hgo, hp, rfl, rfl, rfl, rfl, Nat.le_refl _, .inl ⟨rfl, rfl, rfl, rfl, rfl, hk⟩⟩
theorem step_some {C : Ctx} {fl : Nat} {ops : List Oper} (h0 : Heap) {σ σ' : RS} {o : Oper} {m : Nat} (h : stepD C fl ops σ o m = some σ') : ∃ k v D h', Step C fl ops h0 σ o m σ' k v D h' none := by
  unfold stepD at h
  cases heg : (edgesOk σ.os.length o && guardOk ops o σ.fr) <;> rw [heg] at h <;> simp only [cond_true, cond_false] at h
  · cases h
  obtain ⟨he, hgo⟩ : edgesOk σ.os.length o = true ∧ guardOk ops o σ.fr = true := by simpa using heg
  cases hw : wantedV ops o σ.fr <;> rw [hw] at h <;> simp only [cond_true, cond_false] at h
  · exact ⟨_, _, _, _, endP_some he hgo h (.inl ⟨hw, rfl⟩)⟩
  have hQ : ∀ {v : V} {h' : Heap}, endQ ops σ o m (v, h') = some σ' → (∃ w, how C σ.fr ⟨selD m 0 σ.ds ++ σ.hb, σ.nx⟩ ⟨σ.ds.flatten ++ σ.hb, σ.nx⟩ fl o.op = w ∧
        (w = .q (some (v, h')) ∨ (∃ r, w = .qw (some (v, h')) r) ∨ ∃ f as, w = .c f as ∧ callOp C σ.fr ⟨selD m 0 σ.ds ++ σ.hb, σ.nx⟩ σ.nx f as = some (v, h'))) → ∃ k v D h', Step C fl ops h0 σ o m σ' k v D h' none := by
    intro v h' hq hk
    unfold endQ at hq
    cases hp : (pairsOk ops o 1 m 0 σ.os σ.cl && Nat.ble σ.nx h'.next) <;> simp only [hp] at hq <;> cases hq
    simp only [Bool.and_eq_true] at hp
    exact ⟨1, v, _, h', he, hgo, hp.1, rfl, rfl, rfl, rfl, Nat.le_of_ble_eq_true hp.2, .inr (.inl ⟨rfl, rfl, rfl, rfl, rfl, hw, hk⟩)⟩
  have hW : ∀ {v : V} {h' : Heap}, endW ops σ o m (v, h') = some σ' → (∃ w, how C σ.fr ⟨selD m 0 σ.ds ++ σ.hb, σ.nx⟩ ⟨σ.ds.flatten ++ σ.hb, σ.nx⟩ fl o.op = w ∧
        (w = .w (some (v, h')) ∨ (∃ r, w = .qw r (some (v, h'))) ∨ ∃ f as, w = .c f as ∧ callOp C σ.fr ⟨σ.ds.flatten ++ σ.hb, σ.nx⟩ fl f as = some (v, h'))) → ∃ k v D h', Step C fl ops h0 σ o m σ' k v D h' none := by
    intro v h' hq hk
    unfold endW at hq
    cases hp : (pairsOk ops o 2 m 0 σ.os σ.cl && Nat.ble σ.nx h'.next) <;> simp only [hp] at hq <;> cases hq
    simp only [Bool.and_eq_true] at hp
    exact ⟨2, v, _, h', he, hgo, hp.1, rfl, rfl, rfl, rfl, Nat.le_of_ble_eq_true hp.2, .inr (.inr ⟨rfl, rfl, rfl, rfl, rfl, hw, hk⟩)⟩
  unfold runD at h
  cases hh : how C σ.fr ⟨selD m 0 σ.ds ++ σ.hb, σ.nx⟩ ⟨σ.ds.flatten ++ σ.hb, σ.nx⟩ fl o.op with
  | p x =>
    rw [hh] at h
    obtain ⟨v, rfl, h⟩ := ob_some h
    exact ⟨_, _, _, _, endP_some he hgo h (.inr (.inl ⟨hw, _, _, _, hh⟩))⟩
  | q x =>
    rw [hh] at h
    obtain ⟨v, rfl, h⟩ := ob_some h
    exact hQ h ⟨_, hh, .inl rfl⟩
  | w x =>
    rw [hh] at h
    obtain ⟨v, rfl, h⟩ := ob_some h
    exact hW h ⟨_, hh, .inl rfl⟩
  | qw x y =>
    rw [hh] at h
    cases x with
    | some x => exact hQ h ⟨_, hh, .inr (.inl ⟨_, rfl⟩)⟩
    | none =>
      obtain ⟨v, rfl, h⟩ := ob_some (show ob y (endW ops σ o m) = some σ' from h)
      exact hW h ⟨_, hh, .inr (.inl ⟨_, rfl⟩)⟩
  | c f as =>
    rw [hh] at h
    cases hc : callOp C σ.fr ⟨selD m 0 σ.ds ++ σ.hb, σ.nx⟩ σ.nx f as with
    | some x => simp only [hc] at h; exact hQ h ⟨_, hh, .inr (.inr ⟨f, as, rfl, hc⟩)⟩
    | none =>
      simp only [hc] at h
      obtain ⟨v, hv, h⟩ := ob_some (show ob (callOp C σ.fr ⟨σ.ds.flatten ++ σ.hb, σ.nx⟩ fl f as) (endW ops σ o m) = some σ' from h)
      exact hW h ⟨_, hh, .inr (.inr ⟨f, as, rfl, hv⟩)⟩
/-- all steps -/
theorem any_steps {C : Ctx} {fl : Nat} {ops : List Oper} : ∀ (l : List Oper) (σ σ' : RS), anyR C fl ops l σ = some σ' →
    ∃ st : Nat → RS, st 0 = σ ∧ st l.length = σ' ∧ ∀ i o, l[i]? = some o → stepD C fl ops (st i) o (maskOf (st i).an o) = some (st (i + 1))
  | [], σ, σ', h => by cases h; exact ⟨fun _ => σ, rfl, rfl, fun i o h => by simp at h⟩
  | o :: l, σ, σ', h => by
    obtain ⟨σ1, h1, h2⟩ := ob_some (show ob (stepD C fl ops σ o (maskOf σ.an o)) (anyR C fl ops l) = some σ' from h)
    obtain ⟨st, e0, e1, e2⟩ := any_steps l σ1 σ' h2
    refine ⟨fun i => match i with | 0 => σ | i + 1 => st i, rfl, e1, fun i q hq => ?_⟩
    cases i with
    | zero => simp at hq; subst hq; simp only [e0]; exact h1
    | succ i => exact e2 i q (by simpa using hq)
end Go.Proofs.YtaamdiknefodgaaDoor.Am
