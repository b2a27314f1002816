/- One operation of the abstract machine, with memory; regions in the text's order. (No program in sight.) -/
import Derived.Test.YtaamdiknefodgaaDoorAmMem
namespace Go.Proofs.YtaamdiknefodgaaDoor.Am
set_option linter.unusedSectionVars false
variable [Base]

/-- a function that can be called -/
def Callable (P : Program) (f : FuncId) : Prop := ∃ fn, P.funcs[f]? = some fn ∧ (fn.name == "runtime.NumGoroutine") = false ∧ fn.body.isNone = false
/-- what a call is said to come to, it comes to -/
def Sound (P : Program) (O : Oracle) : Prop :=
  ∀ f args h fl v h', O f args h fl = some (v, h') → Callable P f ∧ ∀ r B w vs, Inv h r B w → All2 (VA r) args vs →
    Calls P f vs.toArray w fun e w' => ∃ u, e = .returned u ∧ Post B fl h r w v h' u w'

section
/-- what a context says is so -/
structure CtxOk (P : Program) (C : Ctx) : Prop where
  call : Sound P C.call
  tb : TabsOk C.tb
variable {P : Program} {C : Ctx} {h hw : Heap} {r : Ren} {B fl : Nat} {w : World} {fr : Fr} {a : Act} {o : Oper}

theorem cases_call {c : Call} {x y : TypeId} {s t : Operand} (h1 : c.argTypes.toList = [x, y]) (h2 : c.args.toList = [s, t]) : c.argTypes = #[x, y] ∧ c.args = #[s, t] := by
  constructor
  · cases hc : c.argTypes; rw [hc] at h1; simp at h1; rw [h1]
  · cases hc : c.args; rw [hc] at h2; simp at h2; rw [h2]
theorem appOp_some {ty : Tys} {ts : List TypeId} {xs : List Operand} {k : Ty → Nat → List S → S → R} {v : V × Heap} (hh : appOp ty fr h ts xs k = some v) :
    ∃ t u s x E sv xv p, ts = [t, u] ∧ xs = [s, x] ∧ isSeq ty u = true ∧ elemOf ty t = some E ∧ evS fr s = some sv ∧ evS fr x = some xv ∧ srcCells h xv = some p ∧ okApp E p.1 p.2 = true ∧ k E p.1 p.2 sv = some v := by
  unfold appOp at hh
  split at hh
  · rename_i t u s x
    cases hq : isSeq ty u <;> rw [hq] at hh <;> simp only [cond_true, cond_false] at hh
    · cases hh
    obtain ⟨E, hE, hh⟩ := ob_some hh
    obtain ⟨sv, hsv, hh⟩ := ob_some hh
    obtain ⟨xv, hxv, hh⟩ := ob_some hh
    obtain ⟨p, hp, hh⟩ := ob_some hh
    cases hk : okApp E p.1 p.2 <;> rw [hk] at hh <;> simp only [cond_true, cond_false] at hh
    · cases hh
    exact ⟨t, u, s, x, E, sv, xv, p, rfl, rfl, hq, hE, hsv, hxv, hp, hk, hh⟩
  · cases hh
theorem append_run {c : Call} (ho : o.op = .call c) (hc : c.callee = .builtin .append) {t u : TypeId} {s x : Operand} (h1 : c.argTypes.toList = [t, u]) (h2 : c.args.toList = [s, x]) {z : Value} {w' : World}
    (hr : (Builtin.append_ #[t, u] o.type #[a.eval s, a.eval x]).run P w = .ok z w') : (execOp a.eval o).run P w = .ok (.value z) w' := by
  obtain ⟨e1, e2⟩ := cases_call h1 h2
  simp [execOp, ho, resolve, hc, invoke, builtin, e1, e2, hr]
theorem natOf_ok {n : Int} {k : Nat} (h : natOf n = some k) : n = k := by
  cases n with
  | ofNat i => cases h; rfl
  | negSucc i => cases h

theorem quiet_ok (hty : TyOk P C.ty) (hi : Inv h r B w) (hf : FR r fr a) {v : V} {h' : Heap} (hh : how C fr h hw fl o.op = .q (some (v, h'))) (fl' : Nat) : OpR P o a w (Post B fl' h r w v h') := by
  cases ho : o.op <;> simp only [ho, how] at hh <;> (try (cases hh; done)) <;> (try (simp only [How.q.injEq] at hh))
  case alloc t =>
    obtain ⟨T, hT, hh⟩ := ob_some hh
    cases hh
    obtain ⟨z, hz, hr⟩ := alloc_run (P := P) (w := w) hty hT
    obtain ⟨g1, g2⟩ := new_row hi (all2_nth (hz r)) t fl'
    exact OpR.val (v := .pointer (some ⟨w.heap.size, 0, none⟩)) (by simp [execOp, ho, hr]) ⟨_, g1, ptr_new _ _ _ _, g2⟩
  case box t x =>
    obtain ⟨y, hy, hh⟩ := ob_some hh
    cases hh
    have hv := VA.cells (evA_ok hf hy)
    obtain ⟨g1, g2⟩ := new_row hi (all2_nth hv) t fl'
    exact OpR.val (v := .pointer (some ⟨w.heap.size, 0, none⟩)) (by simp [execOp, ho, Instr.box, newVar, newRow]) ⟨_, g1, ptr_new _ _ _ _, g2⟩
  case buildSlice t len ps =>
    obtain ⟨E, hE, hh⟩ := ob_some hh
    obtain ⟨qs, hqs, hh⟩ := ob_some hh
    cases hc : (okE E && Nat.ble (len * E.size) 65536) <;> rw [hc] at hh <;> simp only [cond_true, cond_false] at hh
    · cases hh
    simp only [Bool.and_eq_true] at hc
    obtain ⟨cs, hcs, hh⟩ := ob_some hh
    cases hh
    obtain ⟨u, w', hr, hp⟩ := buildSlice_ok (P := P) hty hi hE (evParts_ok hf hqs) hc.1 (Nat.le_of_ble_eq_true hc.2) hcs fl'
    refine OpR.val ?_ hp
    simp only [execOp, ho]
    rw [show (ps.map fun (x : Nat × Operand) => match x with | (i, x) => (i, a.eval x)) = (ps.toList.map fun p => (p.1, a.eval p.2)).toArray from by cases ps; simp]
    simp [hr]
  case load t x =>
    unfold howLoad at hh
    split at hh
    · cases hh
    simp only [How.q.injEq] at hh
    obtain ⟨T, hT, hh⟩ := ob_some hh
    obtain ⟨p, hp, hh⟩ := ob_some hh
    obtain ⟨cs, hcs, hh⟩ := ob_some hh
    obtain ⟨y, hy, hh⟩ := ob_some hh
    cases hh
    obtain ⟨h1, h2⟩ := evPtr_ok hf hp
    obtain ⟨z, hz, hz'⟩ := load_ok (P := P) hty hi hT hcs hy
    exact OpR.val (by simp [execOp, ho, h2, hz]) (Post.same hi hz')
  case convert src dst x =>
    unfold howConv at hh
    split at hh
    · cases hh
    · simp only [How.q.injEq] at hh
      obtain ⟨y, hy, hh⟩ := ob_some hh
      have hv := evS_ok hf hy
      cases hc : (isStrT C.ty dst && u8T C.ty src) <;> rw [hc] at hh <;> simp only [cond_true, cond_false] at hh
      · cases hc' : (isStrT C.ty src && u8T C.ty dst) <;> rw [hc'] at hh <;> simp only [cond_true, cond_false] at hh
        · cases hh
        simp only [Bool.and_eq_true] at hc'
        obtain ⟨z, w', hr, hp⟩ := bytesOf_ok (P := P) hty hi hc'.1 hc'.2 hv hh fl'
        exact OpR.val (by simp [execOp, ho, hr]) hp
      · simp only [Bool.and_eq_true] at hc
        obtain ⟨rfl, z, hr, hp⟩ := strOf_ok (P := P) hty hi hc.2 hc.1 hv hh
        exact OpR.val (by simp [execOp, ho, hr]) (Post.same hi hp)
  case makeSlice t l c =>
    obtain ⟨E, hE, hh⟩ := ob_some hh
    obtain ⟨n, hn, hh⟩ := ob_some hh
    obtain ⟨n', hn', hh⟩ := ob_some hh
    obtain ⟨m, hm, hh⟩ := ob_some hh
    obtain ⟨m', hm', hh⟩ := ob_some hh
    cases hc : (okE E && Nat.ble n' m' && Nat.ble m' 65536) <;> rw [hc] at hh <;> simp only [cond_true, cond_false] at hh
    · cases hh
    simp only [Bool.and_eq_true] at hc
    cases hh
    obtain rfl := natOf_ok hn'
    obtain rfl := natOf_ok hm'
    obtain ⟨kl, hkl⟩ := evInt_ok hf hn
    obtain ⟨kc, hkc⟩ := evInt_ok hf hm
    obtain ⟨u, w', hr, hp⟩ := makeSlice_ok (P := P) hty hi hE hc.1.1 (Nat.le_of_ble_eq_true hc.1.2) (Nat.le_of_ble_eq_true hc.2) kl kc fl'
    exact OpR.val (by simp [execOp, ho, hkl, hkc, hr]) hp
  case call c =>
    cases hcal : c.callee <;> simp only [hcal, howCall] at hh <;> (try (cases hh; done))
    unfold howBuiltin at hh
    split at hh <;> cases hh

theorem quietQW_ok (hty : TyOk P C.ty) (hi : Inv h r B w) (hf : FR r fr a) {v : V} {h' : Heap} {r' : R} (hh : how C fr h hw fl o.op = .qw (some (v, h')) r') (fl' : Nat) : OpR P o a w (Post B fl' h r w v h') := by
  cases ho : o.op <;> simp only [ho, how] at hh <;> (try (cases hh; done))
  case load t x => unfold howLoad at hh; split at hh <;> cases hh
  case convert src dst x => unfold howConv at hh; split at hh <;> cases hh
  case call c =>
    cases hcal : c.callee <;> simp only [hcal, howCall] at hh <;> (try (cases hh; done))
    unfold howBuiltin at hh
    split at hh
    · simp only [How.qw.injEq] at hh
      obtain ⟨t, u, s, x, E, sv, xv, p, e1, e2, e3, e4, e5, e6, e7, e8, e9⟩ := appOp_some hh.1
      obtain ⟨z, w', hr, hp⟩ := appQ_ok (P := P) hty hi e4 e3 (evS_ok hf e5) (evS_ok hf e6) e7 e8 e9 o.type fl'
      exact OpR.val (append_run ho hcal e1 e2 hr) hp
    · cases hh
    · cases hh
    · cases hh
theorem orR_some {x y : R} {z : V × Heap} (h : orR x y = some z) : x = some z ∨ y = some z := by
  cases x with
  | none => exact .inr h
  | some q => cases h; exact .inl rfl
theorem writeQW_ok (hty : TyOk P C.ty) (hi : Inv hw r B w) (hf : FR r fr a) {v : V} {h' : Heap} {r' : R} (hh : how C fr h hw fl o.op = .qw r' (some (v, h'))) : OpR P o a w (Post B fl hw r w v h') := by
  cases ho : o.op <;> simp only [ho, how] at hh <;> (try (cases hh; done))
  case load t x => unfold howLoad at hh; split at hh <;> cases hh
  case convert src dst x => unfold howConv at hh; split at hh <;> cases hh
  case call c =>
    cases hcal : c.callee <;> simp only [hcal, howCall] at hh <;> (try (cases hh; done))
    unfold howBuiltin at hh
    split at hh
    · simp only [How.qw.injEq] at hh
      obtain ⟨t, u, s, x, E, sv, xv, p, e1, e2, e3, e4, e5, e6, e7, e8, e9⟩ := appOp_some hh.2
      cases hz : (szS sv == E.size) <;> rw [hz] at e9 <;> simp only [cond_true, cond_false] at e9
      · cases e9
      obtain ⟨z, w', hr, hp⟩ := appW_ok (P := P) hty hi e4 e3 (evS_ok hf e5) (evS_ok hf e6) e7 e8 (by simpa using hz) e9 o.type
      exact OpR.val (append_run ho hcal e1 e2 hr) hp
    · cases hh
    · cases hh
    · cases hh
theorem write_ok (hty : TyOk P C.ty) (hi : Inv hw r B w) (hf : FR r fr a) {v : V} {h' : Heap} (hh : how C fr h hw fl o.op = .w (some (v, h'))) : OpR P o a w (Post B fl hw r w v h') := by
  cases ho : o.op <;> simp only [ho, how] at hh <;> (try (cases hh; done)) <;> (try (simp only [How.w.injEq] at hh))
  case load t x => unfold howLoad at hh; split at hh <;> cases hh
  case convert src dst x => unfold howConv at hh; split at hh <;> cases hh
  case store t x y =>
    rcases orR_some hh with hh | hh
    case inr =>
      obtain ⟨p, hp, hh⟩ := ob_some hh
      obtain ⟨q, hq, hh⟩ := ob_some hh
      obtain ⟨T, l, k, w', hT, h1, h2, h3, h4, h5, h6, h7⟩ := storeX_ok (P := P) hi (evS_ok hf hp) (evS_ok hf hq) hh
      subst h5
      have hsz := size_run (w := w) hty hT
      refine OpR.skip ?_ ⟨r, h6, VS.undef, h7⟩
      simp [execOp, ho, h2, h3, Instr.storeAt, Instr.sureAddr, storeVar, hsz, h1, Value.cells, h4]
    obtain ⟨T, hT, hh⟩ := ob_some hh
    obtain ⟨p, hp, hh⟩ := ob_some hh
    obtain ⟨v', hv', hh⟩ := ob_some hh
    cases hc : (v'.cells.length == T.size && Nat.ble fl p.1) <;> rw [hc] at hh <;> simp only [cond_true, cond_false] at hh
    · cases hh
    simp only [Bool.and_eq_true, beq_iff_eq] at hc
    obtain ⟨b, hb, hh⟩ := ob_some hh
    cases hbo : b.own <;> rw [hbo] at hh <;> simp only [cond_true, cond_false] at hh
    · cases hh
    obtain ⟨cs, hcs, hh⟩ := ob_some hh
    cases hh
    obtain ⟨h1, h2⟩ := evPtr_ok hf hp
    have hvc := VA.cells (evA_ok hf hv')
    obtain ⟨g1, g2, g3⟩ := lay_ok (P := P) (fl := fl) hi hb hbo (Nat.le_of_ble_eq_true hc.2) hvc hcs
    have hsz := size_run (w := w) hty hT
    have hlen : (a.eval y).cells.size = T.size := by have := hvc.len; simp at this; omega
    refine OpR.skip ?_ ⟨r, g2, VS.undef, g3⟩
    simp [execOp, ho, h2, Instr.storeAt, Instr.sureAddr, storeVar, hsz, hlen, g1]
  case call c =>
    cases hcal : c.callee <;> simp only [hcal, howCall] at hh <;> (try (cases hh; done))
    unfold howBuiltin at hh
    split at hh
    · cases hh
    · simp only [How.w.injEq] at hh
      unfold clearOp at hh
      split at hh
      · rename_i t x ht hx
        obtain ⟨E, hE, hh⟩ := ob_some hh
        obtain ⟨s, hs, hh⟩ := ob_some hh
        obtain ⟨w', hr, hp⟩ := clear_ok (P := P) hty hi hE (evS_ok hf hs) hh o.type
        have e1 := toList_one ht
        have e2 := toList_one hx
        refine OpR.val (v := Go.undef) ?_ hp
        simp [execOp, ho, resolve, hcal, invoke, builtin, e1, e2, hr]
      · cases hh
    · cases hh
    · cases hh
theorem ptrs_ok : ∀ (cs : List (Nat × Nat)), (∀ p ∈ cs, r.ok p.1) → All2 (VA r) (cs.map fun p => A.s (S.ptr p.1 p.2)) (cs.map fun p => Value.pointer (some (r.at p.1 p.2)))
  | [], _ => trivial
  | p :: cs, h => ⟨⟨h p (by simp), rfl⟩, ptrs_ok cs fun q hq => h q (by simp [hq])⟩
theorem call_ok (hC : CtxOk P C) (hi : Inv h r B w) (hf : FR r fr a) {v : V} {h' h1 h2 : Heap} {fl' : Nat} {f : Operand} {as : List Operand} (hh : how C fr h1 h2 fl' o.op = .c f as) (hc : callOp C fr h fl f as = some (v, h')) : OpR P o a w (Post B fl h r w v h') := by
  cases ho : o.op <;> simp only [ho, how] at hh <;> (try (cases hh; done))
  case load t x => unfold howLoad at hh; split at hh <;> cases hh
  case convert src dst x => unfold howConv at hh; split at hh <;> cases hh
  case call c =>
    cases hcal : c.callee <;> simp only [hcal, howCall] at hh <;> (try (cases hh; done))
    · rename_i g
      simp only [How.c.injEq] at hh
      obtain ⟨rfl, rfl⟩ := hh
      obtain ⟨s, hs, hc⟩ := ob_some hc
      obtain ⟨xs, hxs, hc⟩ := ob_some hc
      cases s with
      | fn fid cs =>
        obtain ⟨⟨fn, k1, k2, k3⟩, hcalls⟩ := hC.call _ _ _ _ _ _ hc
        obtain ⟨hcs, hv⟩ := evS_ok hf hs
        have hargs : All2 (VA r) (xs ++ cs.map fun p => .s (.ptr p.1 p.2)) (c.args.toList.map a.eval ++ cs.map fun p => Value.pointer (some (r.at p.1 p.2))) := by
          refine (mapA_ok hf hxs).app ?_
          exact ptrs_ok cs hcs
        have := hcalls r B w _ hi hargs
        unfold OpR
        have hrun : (execOp a.eval o).run P w = .ok (.enter fid (c.args.toList.map a.eval ++ cs.map fun p => Value.pointer (some (r.at p.1 p.2))).toArray) w := by
          have e1 : c.args.map a.eval = (c.args.toList.map a.eval).toArray := by cases c.args; simp
          have k2' : ¬ fn.name = "runtime.NumGoroutine" := by simpa using k2
          have k3' : fn.body ≠ none := by intro e; rw [e] at k3; cases k3
          simp [execOp, ho, resolve, hcal, hv, Deferred.ofValue, invoke, callFunc, k1, k2', k3', e1]
        rw [hrun]
        exact this
      | _ => cases hc
    · unfold howBuiltin at hh
      split at hh <;> cases hh

theorem opr_ok (hty : TyOk P C.ty) (hC : CtxOk P C) (hi : Inv h r B w) (hf : FR r fr a) {v : V} {h' : Heap} (hh : opr C fr h fl o.op = some (v, h')) : OpR P o a w (Post B fl h r w v h') := by
  unfold opr runHow at hh
  cases hw : how C fr h h fl o.op with
  | p x =>
    rw [hw] at hh
    obtain ⟨y, rfl, hh⟩ := ob_some hh
    cases hh
    obtain ⟨u, hu, hv⟩ := how_pure (w := w) hty hC.tb hi.hr.z hf hw
    exact OpR.val hu (Post.same hi hv)
  | q x => rw [hw] at hh; subst hh; exact quiet_ok hty hi hf hw fl
  | w x => rw [hw] at hh; subst hh; exact write_ok hty hi hf hw
  | qw x y =>
    rw [hw] at hh
    cases x with
    | some x => cases hh; exact quietQW_ok hty hi hf hw fl
    | none =>
      have hh : y = some (v, h') := hh
      subst hh
      exact writeQW_ok hty hi hf hw
  | c f as =>
    rw [hw] at hh
    obtain ⟨vs, _, hh⟩ := ob_some (show callQ C fr h fl f as = some (v, h') from hh)
    cases hc : (vs.all noPtr && Nat.ble fl h.next) <;> rw [hc] at hh <;> simp only [cond_true, cond_false] at hh
    · exact call_ok hC hi hf hw hh
    · simp only [Bool.and_eq_true] at hc
      rcases orR_some hh with hh | hh
      · refine (call_ok hC hi hf hw hh).mono fun u w' ⟨r', g1, g2, g3⟩ => ⟨r', g1, g2, g3.low (Nat.le_of_ble_eq_true hc.2)⟩
      · exact call_ok hC hi hf hw hh

def valBool (u : Value) : Option Bool := match u with | .bool b => some b | _ => none
theorem boolV_ok {v : V} {u : Value} (hd : darkV v = false) (hv : VV r v u) : boolV v = valBool u := by
  cases v with
  | a x => cases x with
    | s x => cases x with
      | xe l =>
        have hd : Option.rec true (fun _ => false) (anyE l) = false := hd
        cases hl : anyE l with
        | none => rw [hl] at hd; cases hd
        | some b =>
          have e : u = .bool b := isBool_ok (r := r) (x := .xe l) hl hv
          rw [e]
          exact hl
      | xa l c =>
        have hd : Option.rec true (fun _ => false) (allK l) = false := hd
        cases hl : allK l with
        | none => rw [hl] at hd; cases hd
        | some b =>
          have e : u = .bool (b == c) := isBool_ok (r := r) (x := .xa l c) (show ob (allK l) _ = _ by rw [hl]; rfl) hv
          rw [e]
          show ob (allK l) _ = _
          rw [hl]
          rfl
      | px l o n i => rw [hv.2.2.2]; rfl
      | sl l o n z c => cases c with
        | none => rw [hv.2.2.2]; rfl
        | some c => rw [hv.2.2.2]; rfl
      | ptr l o => rw [hv.2]; rfl
      | fn f cs => rw [hv.2]; rfl
      | sle => obtain ⟨a, c, rfl⟩ := hv; rfl
      | ifc => obtain ⟨a, c, rfl⟩ := hv; rfl
      | rv k => obtain ⟨_, _, _, _, rfl⟩ := hv; rfl
      | pe k i o => obtain ⟨_, _, _, _, rfl⟩ := hv; rfl
      | top => cases hd
      | _ => cases hv; rfl
    | g l => obtain ⟨vs, rfl, _⟩ := hv; rfl
  | t l => obtain ⟨vs, rfl, _⟩ := hv; rfl
  | any => cases hd
theorem all2_get : ∀ {α β : Type} {R : α → β → Prop} {xs : List α} {ys : List β}, All2 R xs ys → ∀ n : Nat, (nth xs n = none ∧ ys[n]? = none) ∨ ∃ x y, nth xs n = some x ∧ ys[n]? = some y ∧ R x y
  | _, _, _, [], [], _, n => .inl ⟨rfl, by simp⟩
  | _, _, _, [], _ :: _, h, _ => h.elim
  | _, _, _, _ :: _, [], h, _ => h.elim
  | _, _, _, x :: xs, y :: ys, h, 0 => .inr ⟨x, y, rfl, rfl, h.1⟩
  | _, _, _, x :: xs, y :: ys, h, n + 1 => by rw [nth_cons_succ]; simpa using all2_get h.2 n
theorem yielded_ok (hf : FR r fr a) (ops : Array Oper) (j : Nat) (hg : Option.rec true (fun q => Option.rec true (fun d => Option.rec true (fun v => !(darkV v)) (nth fr d)) q.dst) (nth ops.toList j) = true) : yieldedV ops.toList fr j = yielded ops a.tmps j := by
  unfold yieldedV yielded
  rw [nth_eq, Array.getElem?_toList] at hg ⊢
  cases hj : ops[j]? with
  | none => rfl
  | some q =>
    rw [hj] at hg
    simp only [ob_some', Option.bind_some] at hg ⊢
    cases hd : q.dst with
    | none => rfl
    | some d =>
      rw [hd] at hg
      simp only [ob_some', Option.bind_some] at hg ⊢
      rcases all2_get hf d with ⟨h1, h2⟩ | ⟨x, y, h1, h2, h3⟩
      · rw [h1]; simp at h2; simp [Array.getElem?_eq_none h2]
      · rw [h1] at hg ⊢
        rw [Array.getElem?_toList] at h2
        rw [h2]
        have hx : darkV x = false := by simpa using hg
        simp only [ob_some', boolV_ok hx h3]
        cases y <;> rfl
theorem wanted_ok (hf : FR r fr a) (ops : Array Oper) (o : Oper) (hgo : guardOk ops.toList o fr = true) : wantedV ops.toList o fr = Region.wanted o (yielded ops a.tmps) := by
  unfold wantedV Region.wanted
  cases hg : o.guard with
  | none => rfl
  | some g =>
    obtain ⟨j, want⟩ := g
    unfold guardOk at hgo
    rw [hg] at hgo
    simp only [yielded_ok hf ops j hgo]
    cases yielded ops a.tmps j <;> rfl

/-- what is carried along: the frame, the memory -/
structure Rel (s : St) (r : Ren) (B : Nat) (a : Act) (w : World) : Prop where
  f : FR r s.fr a
  i : Inv s.h r B w

theorem listR_ok (hty : TyOk P C.ty) (hC : CtxOk P C) {ops : Array Oper} {Q : Exit → Act → World → Prop} {B : Nat} : ∀ (l : List Oper) {s s' : St} {r : Ren} {a : Act} {w : World}, Rel s r B a w → listR C fl ops.toList l s = some s' →
    (∀ r' a' w', Rel s' r' B a' w' → Adv fl s.h r w s'.h r' w' → a'.defers = a.defers → Q .normal a' w') → wpList P ops Q l a w
  | [], s, s', r, a, w, hr, hs, hq => by
    cases hs
    exact wpList_nil (hq r a w hr (Adv.refl fl hr.i) rfl)
  | o :: l, s, s', r, a, w, hr, hs, hq => by
    have hs' : (bif guardOk ops.toList o s.fr then bif wantedV ops.toList o s.fr then ob (opr C s.fr s.h fl o.op) (fun x => listR C fl ops.toList l ⟨putV s.fr o.dst x.1, x.2⟩) else listR C fl ops.toList l ⟨putV s.fr o.dst undef, s.h⟩ else none) = some s' := hs
    clear hs
    cases hgo : guardOk ops.toList o s.fr <;> rw [hgo] at hs' <;> simp only [cond_true, cond_false] at hs'
    · cases hs'
    refine wpList_step fun K hK => ?_
    rw [← wanted_ok hr.f ops o hgo]
    cases hw : wantedV ops.toList o s.fr <;> rw [hw] at hs' <;> simp only [cond_true, cond_false] at hs'
    · simp only [Bool.false_eq_true, if_false]
      refine hK _ _ (listR_ok hty hC l (s := ⟨putV s.fr o.dst undef, s.h⟩) (r := r) ⟨hr.f.put o.dst VS.undef, hr.i⟩ hs' fun r' a' w' h1 h2 h3 => hq r' a' w' h1 h2 (h3.trans (by cases o.dst <;> rfl)))
    · simp only [if_true]
      obtain ⟨x, hx, hs'⟩ := ob_some hs'
      obtain ⟨v, h'⟩ := x
      refine (opr_ok hty hC hr.i hr.f hx).wp fun u w' ⟨r', g1, g2, g3⟩ => hK _ _ ?_
      refine listR_ok hty hC l (s := ⟨putV s.fr o.dst v, h'⟩) (r := r') ⟨(hr.f.mono g3.le).put o.dst g2, g1⟩ hs' fun r'' a' w'' h1 h2 h3 => hq r'' a' w'' h1 (Adv.trans hr.i g1 g3 h2) (h3.trans (by cases o.dst <;> rfl))
end
end Go.Proofs.YtaamdiknefodgaaDoor.Am
