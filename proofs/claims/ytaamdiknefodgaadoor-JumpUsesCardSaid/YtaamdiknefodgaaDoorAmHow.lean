/- One operation of the abstract machine, without memory. (No program in sight.) -/
import Derived.Test.YtaamdiknefodgaaDoorAmPure
namespace Go.Proofs.YtaamdiknefodgaaDoor.Am
set_option linter.unusedSectionVars false
variable [Base]

/-- one operation of the model: what it comes to -/
def OpR (P : Program) (o : Oper) (a : Act) (w : World) (K : Value → World → Prop) : Prop :=
  match (execOp a.eval o).run P w with
  | .ok (.value v) w' => K v w'
  | .ok .skip w' => K Go.undef w'
  | .ok (.enter f args) w' => Calls P f args w' fun e w'' => ∃ v, e = .returned v ∧ K v w''
  | _ => False
theorem OpR.wp {P : Program} {o : Oper} {a : Act} {w : World} {K : Value → World → Prop} (h : OpR P o a w K) {next : Act → World → Prop} {Q : Exit → Act → World → Prop}
    (hn : ∀ v w', K v w' → next (a.put o.dst v) w') : o.wp P a w next Q := by
  unfold OpR at h
  unfold Oper.wp
  generalize (execOp a.eval o).run P w = r at *
  cases r with
  | ok n w' =>
    cases n <;> simp only [Oper.upon] at h ⊢ <;> first
      | exact hn _ _ h
      | exact h.elim
      | exact Calls.mono h (fun e w'' he => by obtain ⟨v, rfl, hk⟩ := he; exact hn _ _ hk)
  | halt x w' => exact h.elim
theorem OpR.mono {P : Program} {o : Oper} {a : Act} {w : World} {K K' : Value → World → Prop} (h : OpR P o a w K) (hn : ∀ v w', K v w' → K' v w') : OpR P o a w K' := by
  unfold OpR at *
  generalize (execOp a.eval o).run P w = r at *
  cases r with
  | ok n w' =>
    cases n <;> simp only at h ⊢ <;> first
      | exact hn _ _ h
      | exact h.elim
      | exact Calls.mono h (fun e w'' he => by obtain ⟨v, rfl, hk⟩ := he; exact ⟨v, rfl, hn _ _ hk⟩)
  | halt x w' => exact h.elim
theorem OpR.val {P : Program} {o : Oper} {a : Act} {w w' : World} {K : Value → World → Prop} {v : Value} (h : (execOp a.eval o).run P w = .ok (.value v) w') (k : K v w') : OpR P o a w K := by
  unfold OpR; rw [h]; exact k
theorem OpR.skip {P : Program} {o : Oper} {a : Act} {w w' : World} {K : Value → World → Prop} (h : (execOp a.eval o).run P w = .ok .skip w') (k : K Go.undef w') : OpR P o a w K := by
  unfold OpR; rw [h]; exact k

section
variable {P : Program} {w : World} {ty : Tys}
theorem optInt_ok {r : Ren} {fr : Fr} {a : Act} (hf : FR r fr a) {x : Option Operand} {y : Option Int} (h : optInt fr x = some y) : OV y (x.map a.eval) := by
  cases x with
  | none => cases h; trivial
  | some x =>
    obtain ⟨n, hn, h⟩ := ob_some (show ob (evInt fr x) (fun n => some (some n)) = some y from h)
    cases h
    exact evInt_ok hf hn
theorem numO'_ok {r : Ren} {fr : Fr} {a : Act} (hf : FR r fr a) {x : Option Operand} {y : Option N} (h : numO' fr x = some y) : OV (y.map NV) (x.map a.eval) := by
  cases x with
  | none => cases h; trivial
  | some x =>
    obtain ⟨s, hs, h⟩ := ob_some (show ob (evS fr x) (fun x => ob x.num fun p => some (some p.2)) = some y from h)
    obtain ⟨p, hp, h⟩ := ob_some h
    cases h
    exact ⟨_, num_ok hp (evS_ok hf hs)⟩
theorem cutK_ok (hty : TyOk P ty) {r : Ren} {fr : Fr} {a : Act} (hf : FR r fr a) {t : TypeId} {x : Operand} {lo hi mx : Option Operand} {v : V} (h : cutK ty fr t x lo hi mx = some v) :
    ∃ z, (Instr.sliceAt t (a.eval x) (lo.map a.eval) (hi.map a.eval) (mx.map a.eval)).run P w = .ok z w ∧ VV r v z := by
  unfold cutK at h
  cases hc : (isNoneO mx && isStrT ty t) <;> rw [hc] at h <;> simp only [cond_true, cond_false] at h
  · cases h
  simp only [Bool.and_eq_true] at hc
  obtain ⟨hm, hs⟩ := hc
  cases mx with
  | some m => cases hm
  | none =>
    obtain ⟨p, hp, h⟩ := ob_some h
    obtain ⟨l, hl, h⟩ := ob_some h
    obtain ⟨b, hb, h⟩ := ob_some h
    obtain ⟨e, he, h⟩ := ob_some h
    obtain ⟨m, hm, h⟩ := ob_some h
    cases h
    obtain ⟨i, j, h1, h2, h3, h4, h5⟩ := Base.ok.ct _ _ _ _ (findCt_mem hm)
    have hu := txt_ok hl (evS_ok hf hp)
    have hi' : VS r (.str (strX Base.sig l)) (a.eval x) := hu
    have hlo : oi (b.map NV) 0 = (i : Int) := by
      cases b with
      | none => exact h1
      | some b => exact h1
    have hhi : oi (e.map NV) (strX Base.sig l).length = (j : Int) := by
      cases e with
      | none => have h2 : j = (strX Base.sig l).length := h2; show ((strX Base.sig l).length : Int) = j; omega
      | some e => exact h2
    have hbn : ∀ {a b : Nat}, a ≤ b → bnd (a : Int) b = some a := fun {a b} h => by
      show (bif Nat.ble a b then some a else none) = _
      rw [Nat.ble_eq_true_of_le h]
      rfl
    obtain ⟨z, hz, hz'⟩ := slice_ok (P := P) (w := w) (t := t) (mx := none) (vm := none) (s := .str (((strX Base.sig l).take j).drop i)) hty (numO'_ok hf hb) (numO'_ok hf he) trivial hi' (by
      show (bif isStrT ty t then cutStr (strX Base.sig l) (b.map NV) (e.map NV) else none) = _
      rw [hs]
      show (ob (bnd (oi (e.map NV) (strX Base.sig l).length) (strX Base.sig l).length) fun h => ob (bnd (oi (b.map NV) 0) h) fun k => some (S.str (((strX Base.sig l).take h).drop k))) = _
      rw [hhi, hbn h4, ob_some', hlo, hbn h3, ob_some'])
    refine ⟨z, hz, ?_⟩
    rw [h5] at hz'
    exact hz'
theorem aggOf_ok {r : Ren} {x : A} {cs : List S} (h : aggOf x = some cs) {u : Value} (hu : VA r x u) : ∃ us : List Value, u = .agg us.toArray ∧ All2 (VS r) cs us := by
  cases x with
  | s y => cases h
  | g l => cases h; exact hu
theorem toList_one {α : Type} {l : Array α} {x : α} (h : l.toList = [x]) : l = #[x] := by cases l; simp at h; rw [h]
theorem pureBuiltin_ok (hty : TyOk P ty) {r : Ren} {fr : Fr} {a : Act} (hf : FR r fr a) {c : Call} {b : Builtin} {v : V} (h : pureBuiltin ty fr c b = some v) (o : TypeId) (cs : Array Bool) :
    ∃ u, (builtin b c.argTypes o cs (c.args.map a.eval)).run P w = .ok (.value u) w ∧ VV r v u := by
  unfold pureBuiltin at h
  split at h
  · unfold lenOp at h
    split at h
    · rename_i t ts x ht hx
      obtain ⟨T, hT, h⟩ := ob_some h
      obtain ⟨y, hy, h⟩ := ob_some h
      have e1 : c.argTypes = (t :: ts).toArray := by rw [← ht]
      have e2 := toList_one hx
      rcases orO_some h with h | h
      · obtain ⟨n, hn, h⟩ := ob_some h
        cases h
        have := lenD_ok (w := w) hty hT (evA_ok hf hy) hn ts o
        refine ⟨.int .i64 n, ?_, rfl⟩
        rw [e1, e2]
        simp [builtin, this]
      · obtain ⟨z, hz, hz'⟩ := lenXs_ok (w := w) hty hT (evA_ok hf hy) h ts o
        refine ⟨z, ?_, hz'⟩
        rw [e1, e2]
        simp [builtin, hz]
    · cases h
  · obtain ⟨l, hl, h⟩ := ob_some h
    split at h
    · rename_i x l'
      have hm := mapS_ok hf hl
      cases hc : c.args.toList.map a.eval with
      | nil => rw [hc] at hm; exact hm.elim
      | cons u us =>
        rw [hc] at hm
        obtain ⟨s, hs, h⟩ := ob_some h
        cases h
        obtain ⟨z, hz, hz'⟩ := foldS_ok (P := P) (w := w) maxI_ok hm.1 hm.2 hs
        refine ⟨z, ?_, hz'⟩
        simp [builtin, Builtin.max_, hc, hz]
    · cases h
  · obtain ⟨l, hl, h⟩ := ob_some h
    split at h
    · rename_i x l'
      have hm := mapS_ok hf hl
      cases hc : c.args.toList.map a.eval with
      | nil => rw [hc] at hm; exact hm.elim
      | cons u us =>
        rw [hc] at hm
        obtain ⟨s, hs, h⟩ := ob_some h
        cases h
        obtain ⟨z, hz, hz'⟩ := foldS_ok (P := P) (w := w) minI_ok hm.1 hm.2 hs
        refine ⟨z, ?_, hz'⟩
        simp [builtin, Builtin.min_, hc, hz]
    · cases h
  · cases h

theorem how_pure {C : Ctx} (hty : TyOk P C.ty) (hTb : TabsOk C.tb) (hw0 : Here w) {r : Ren} {fr : Fr} {a : Act} (hf : FR r fr a) {h hw : Heap} {fl : Nat} {o : Oper} {v : V} (hh : how C fr h hw fl o.op = .p (some v)) :
    ∃ u, (execOp a.eval o).run P w = .ok (.value u) w ∧ VV r v u := by
  cases ho : o.op <;> simp only [ho, how] at hh <;> (try (cases hh; done)) <;> (try (simp only [How.p.injEq] at hh))
  case move x => exact ⟨a.eval x, by simp [execOp, ho], ev_ok hf hh⟩
  case assign x => exact ⟨a.eval x, by simp [execOp, ho], ev_ok hf hh⟩
  case pick c x y =>
    obtain ⟨s, hs, hh⟩ := ob_some hh
    obtain ⟨b, hb, hh⟩ := ob_some hh
    have e := isBool_ok hb (evS_ok hf hs)
    cases b
    · exact ⟨a.eval y, by simp [execOp, ho, e, asBool], ev_ok hf hh⟩
    · exact ⟨a.eval x, by simp [execOp, ho, e, asBool], ev_ok hf hh⟩
  case binOp op t x y t' =>
    rcases orO_some hh with hh | hh
    · obtain ⟨p, hp, hh⟩ := ob_some hh
      obtain ⟨q, hq, hh⟩ := ob_some hh
      obtain ⟨z, hz, hz'⟩ := bin_ok (w := w) hty (evA_ok hf hp) (evA_ok hf hq) hh
      refine ⟨z, ?_, hz'⟩
      unfold guarded at hz
      simp only [execOp, ho, Sem.run_bind] at hz ⊢
      rw [hz]
      rfl
    · have key : ∃ z, (guarded op t x y (a.eval x) (a.eval y)).run P w = .ok z w ∧ VV r v z := by
        rcases orO_some hh with hh | hh
        · exact addL_ok (w := w) (t := t) hTb hty hf hh
        · exact sumK_ok (w := w) (t := t) hty hf hh
      obtain ⟨z, hz, hz'⟩ := key
      refine ⟨z, ?_, hz'⟩
      unfold guarded at hz
      simp only [execOp, ho, Sem.run_bind] at hz ⊢
      rw [hz]
      rfl
  case unOp op t x =>
    obtain ⟨p, hp, hh⟩ := ob_some hh
    obtain ⟨z, hz, hz'⟩ := un_ok (P := P) (w := w) (evS_ok hf hp) hh
    exact ⟨z, by simp [execOp, ho, hz], hz'⟩
  case convert src dst x =>
    unfold howConv at hh
    split at hh
    · rename_i v' hv'
      simp only [How.p.injEq] at hh
      cases hh
      obtain ⟨X, hX, hv'⟩ := ob_some hv'
      obtain ⟨T, hT, hv'⟩ := ob_some hv'
      obtain ⟨p, hp, hv'⟩ := ob_some hv'
      obtain ⟨z, hz, hz'⟩ := convInt_ok (w := w) hty hX hT (evS_ok hf hp) hv'
      exact ⟨z, by simp [execOp, ho, hz], hz'⟩
    · cases hh
  case makeFunc fn first captured =>
    unfold makeFuncOp at hh
    split at hh
    · rename_i f hfirst
      obtain ⟨cs, hcs, hh⟩ := ob_some hh
      cases hh
      obtain ⟨h1, h2⟩ := mapPtr_ok hf hcs
      have e1 : first = #[] := by cases first; simpa using hfirst
      have e2 : captured.map a.eval = (cs.map fun p => Value.pointer (some (r.at p.1 p.2))).toArray := by
        rw [← h2]; cases captured; simp
      refine ⟨_, ?_, h1, rfl⟩
      subst e1
      simp [execOp, ho, Instr.makeFunc, e2]
    · cases hh
  case slice t x lo hi mx =>
    rcases orO_some hh with hh | hh
    · obtain ⟨p, hp, hh⟩ := ob_some hh
      obtain ⟨l, hl, hh⟩ := ob_some hh
      obtain ⟨i, hi', hh⟩ := ob_some hh
      obtain ⟨m, hm, hh⟩ := ob_some hh
      obtain ⟨s, hs, hh⟩ := ob_some hh
      cases hh
      obtain ⟨z, hz, hz'⟩ := slice_ok (w := w) hty (optInt_ok hf hl) (optInt_ok hf hi') (optInt_ok hf hm) (evS_ok hf hp) hs
      exact ⟨z, by simp [execOp, ho, hz], hz'⟩
    · obtain ⟨z, hz, hz'⟩ := cutK_ok (w := w) hty hf hh
      exact ⟨z, by simp [execOp, ho, hz], hz'⟩
  case fieldAddr s x f =>
    rcases orO_some hh with hh | hh
    · obtain ⟨p, hp, hh⟩ := ob_some hh
      obtain ⟨q, hq, hh⟩ := ob_some hh
      cases hz : (q.2.size == 0) <;> rw [hz] at hh <;> cases hh
      obtain ⟨h1, h2⟩ := evPtr_ok hf hp
      obtain ⟨z, hz1, hz2⟩ := fieldAddr_ok (w := w) (o := p.2) hty h1 hq hz
      exact ⟨z, by simp [execOp, ho, h2, hz1], hz2⟩
    · obtain ⟨z, hz1, hz2⟩ := fieldL_ok (w := w) hty hf hh
      exact ⟨z, by simp [execOp, ho, hz1], hz2⟩
  case field s x f =>
    obtain ⟨p, hp, hh⟩ := ob_some hh
    obtain ⟨cs, hcs, hh⟩ := ob_some hh
    obtain ⟨q, hq, hh⟩ := ob_some hh
    obtain ⟨c, hc, hh⟩ := ob_some hh
    obtain ⟨y, hy, hh⟩ := ob_some hh
    cases hh
    obtain ⟨us, h1, h2⟩ := aggOf_ok hcs (evA_ok hf hp)
    obtain ⟨z, hz1, hz2⟩ := field_ok (w := w) hty h2 hq hc hy
    exact ⟨z, by simp [execOp, ho, h1, hz1], hz2⟩
  case indexAddr t x i =>
    rcases orO_some hh with hh | hh
    · obtain ⟨p, hp, hh⟩ := ob_some hh
      obtain ⟨n, hn, hh⟩ := ob_some hh
      obtain ⟨z, hz1, hz2⟩ := indexAddrI_ok (w := w) hty (evS_ok hf hp) (evS_ok hf hn) hh
      exact ⟨z, by simp [execOp, ho, hz1], hz2⟩
    · obtain ⟨z, hz1, hz2⟩ := indexL_ok (w := w) hTb hty hf hh
      exact ⟨z, by simp [execOp, ho, hz1], hz2⟩
  case load t x =>
    unfold howLoad at hh
    split at hh
    · rename_i v' hv'
      simp only [How.p.injEq] at hh
      cases hh
      obtain ⟨z, hz1, hz2⟩ := loadL_ok hTb hw0 hty hf hv'
      exact ⟨z, by simp [execOp, ho, hz1], hz2⟩
    · cases hh
  case index t x i =>
    obtain ⟨p, hp, hh⟩ := ob_some hh
    obtain ⟨n, hn, hh⟩ := ob_some hh
    obtain ⟨k, hk⟩ := evInt_ok hf hn
    have hpa := evA_ok hf hp
    cases p with
    | s y =>
      obtain ⟨z, hz1, hz2⟩ := index_str_ok (w := w) (k := k) hty hpa hh
      exact ⟨z, by simp [execOp, ho, hk, hz1], hz2⟩
    | g l =>
      obtain ⟨us, h1, h2⟩ := hpa
      obtain ⟨z, hz1, hz2⟩ := index_arr_ok (w := w) (k := k) hty h2 hh
      exact ⟨z, by simp [execOp, ho, hk, h1, hz1], hz2⟩
  case extract t i =>
    obtain ⟨p, hp, hh⟩ := ob_some hh
    obtain ⟨z, hz1, hz2⟩ := extract_ok (P := P) (w := w) (ev_ok hf hp) hh
    exact ⟨z, by simp [execOp, ho, hz1], hz2⟩
  case build t ps =>
    obtain ⟨T, hT, hh⟩ := ob_some hh
    obtain ⟨qs, hqs, hh⟩ := ob_some hh
    obtain ⟨z, hz1, hz2⟩ := build_ok (w := w) hty hT (evParts_ok hf hqs) hh
    refine ⟨z, ?_, hz2⟩
    simp only [execOp, ho]
    rw [show (ps.map fun (x : Nat × Operand) => match x with | (i, x) => (i, a.eval x)) = (ps.toList.map fun p => (p.1, a.eval p.2)).toArray from by cases ps; simp]
    simp [hz1]
  case nilCheck x =>
    obtain ⟨p, hp, hh⟩ := ob_some hh
    cases hh
    obtain ⟨h1, h2⟩ := evPtr_ok hf hp
    exact ⟨_, by simp [execOp, ho, h2], h1, rfl⟩
  case call c =>
    cases hcal : c.callee <;> simp only [hcal, howCall] at hh <;> (try (cases hh; done))
    rename_i b
    unfold howBuiltin at hh
    split at hh
    · cases hh
    · cases hh
    · simp only [How.p.injEq] at hh
      rcases orO_some hh with hh | hh
      · obtain ⟨u, hu1, hu2⟩ := pureBuiltin_ok (w := w) hty hf hh o.type (c.args.map fun | .const _ => true | _ => false)
        refine ⟨u, ?_, hu2⟩
        simp only [execOp, ho, Sem.run_bind]
        simp only [resolve, hcal, Sem.run_pure, Result.andThen_ok, invoke]
        exact hu1
      · obtain ⟨u, hu1, hu2⟩ := lenL_ok (w := w) hTb hty hf hh o.type (c.args.map fun | .const _ => true | _ => false)
        refine ⟨u, ?_, hu2⟩
        simp only [execOp, ho, Sem.run_bind]
        simp only [resolve, hcal, Sem.run_pure, Result.andThen_ok, invoke]
        exact hu1
    · simp only [How.p.injEq] at hh
      obtain ⟨u, hu1, hu2⟩ := pureBuiltin_ok (w := w) hty hf hh o.type (c.args.map fun | .const _ => true | _ => false)
      refine ⟨u, ?_, hu2⟩
      simp only [execOp, ho, Sem.run_bind]
      simp only [resolve, hcal, Sem.run_pure, Result.andThen_ok, invoke]
      exact hu1
end
end Go.Proofs.YtaamdiknefodgaaDoor.Am
