/- Slices of one cell an element that a call has made: what the machine says of them, and rows of calls that answer with one. (No program in sight.) -/
import Derived.Test.YtaamdiknefodgaaDoorAmFact
import Derived.Test.YtaamdiknefodgaaDoorAmInc
namespace Go.Proofs.YtaamdiknefodgaaDoor.Am
open Go.RowKit
set_option linter.unusedSectionVars false
set_option linter.unusedVariables false

/-- a slice that holds these, in a block that was not there -/
inductive NewRow (w w1 : World) : Value → List Value → Prop where
  | none : NewRow w w1 (.slice none 0 0) []
  | row {g cap : Nat} {C : Array Value} {T : TypeId} {fz : Nat × Nat} {us : List Value} (hp : us ≠ []) (hg : w.heap.size ≤ g) (hnew : w1.heap[g]? = some (.cells C T fz)) (hfz : ∀ i, i ≤ C.size → (fz.1 ≤ i && i < fz.2) = false)
      (hn : us.length ≤ cap) (hmx : cap ≤ maxLen) (hcap : C.size = cap) (hus : C.toList.take us.length = us) : NewRow w w1 (.slice (some ⟨g, 0, .none⟩) us.length cap) us
/-- the machine's slice, with its length and an error 0 -/
noncomputable def rowAt (r : R) : Option (List S) := match r with
  | some (.t [.s .nils, .s (.int .i64 0)], _) => some []
  | some (.t [.s (.sl l 0 n 1 none), .s (.int .i64 0)], h) => ob (h.get l) fun b => bif b.own && Nat.blt 0 n && Nat.ble n b.cells.length then some (b.cells.take n) else none
  | _ => none
theorem sl_own {C : Array Value} {n : Nat} (h : n ≤ C.size) : (C.toList.take n).length = n := by simp; omega
/-- the machine's word on a call that answers with a new row -/
theorem calls_row [b : Base] {P : Program} (w : World) (hnb : Base.nb ≤ w.heap.size) (hg : ∀ k, k < Base.nb → w.heap[k]? = Base.g k) {O : Oracle} (hO : Sound P O) {f : FuncId} {args : List A} {vs : List Value} (ha : All2 (VA r0) args vs) {cs : List S} (hr : rowAt (O f args ⟨[], 0⟩ 0) = some cs) :
    Calls P f vs.toArray w fun e w' => ∃ u us r', e = .returned (.tuple #[u, .int .i64 0]) ∧ NewRow w w' u us ∧ All2 (VS r') cs us ∧ Below w.heap.size w w' := by
  have hi : Inv ⟨[], 0⟩ r0 w.heap.size w :=
    ⟨fun l h => h.elim, Nat.le_refl _, fun l b h => (by cases h), fun l b h => (by cases h), fun l b h => (by cases h), fun l b l' b' h => (by cases h), hnb, hg⟩
  have below : ∀ {h' : Heap} {r' : Ren} {w' : World}, Adv 0 ⟨[], 0⟩ r0 w h' r' w' → Below w.heap.size w w' := fun ad => ⟨ad.os, ad.tape, ad.output, ad.size, fun k hk => ad.frame k hk fun l c hl _ _ => (by cases hl)⟩
  unfold rowAt at hr
  split at hr
  · rename_i h' he
    cases hr
    obtain ⟨_, hc⟩ := hO _ _ _ _ _ _ he
    refine (hc r0 w.heap.size w vs hi ha).mono fun e w' ⟨u, e1, r', i, e2, ad⟩ => ?_
    obtain ⟨ws, rfl, h2⟩ := e2
    match ws, h2 with
    | [a, c], ⟨h3, h4, _⟩ =>
      obtain rfl : a = .slice none 0 0 := h3
      obtain rfl : c = .int .i64 0 := h4
      exact ⟨_, [], r', e1, .none, trivial, below ad⟩
  · rename_i l n h' he
    obtain ⟨blk, hb, hr⟩ := ob_some hr
    cases hq : (blk.own && Nat.blt 0 n && Nat.ble n blk.cells.length) <;> rw [hq] at hr <;> simp only [cond_true, cond_false] at hr
    · cases hr
    cases hr
    simp only [Bool.and_eq_true] at hq
    obtain ⟨⟨hown, hp⟩, hle⟩ := hq
    have hp := Nat.blt_eq ▸ hp
    have hle := Nat.le_of_ble_eq_true hle
    obtain ⟨_, hc⟩ := hO _ _ _ _ _ _ he
    refine (hc r0 w.heap.size w vs hi ha).mono fun e w' ⟨u, e1, r', i, e2, ad⟩ => ?_
    obtain ⟨ws, rfl, h2⟩ := e2
    match ws, h2 with
    | [a, c], ⟨h3, h4, _⟩ =>
      obtain rfl : c = .int .i64 0 := h4
      obtain ⟨hok, ⟨_, hmx⟩, hn, rfl⟩ := h3
      obtain ⟨hB, hoff, C, T, fz, hC, hsz, hfz, hat⟩ := i.hr.own l blk hb hown
      have hfresh : w.heap.size ≤ r'.blk l := by
        rcases (ad.fresh l blk (Nat.zero_le _) hb).2 with h | ⟨l0, b0, h0, _⟩
        · exact h
        · cases h0
      have hcap : (r'.cap l - 0) / 1 = C.size := by rw [hsz]; simp
      rw [hcap] at hmx hn e1
      have hlen := sl_own hn
      have hat' : r'.at l 0 = ⟨r'.blk l, 0, .none⟩ := by simp [Ren.at, hoff]
      rw [hat'] at e1
      refine ⟨_, C.toList.take n, r', by rw [e1], ?_, ?_, below ad⟩
      · have := NewRow.row (w := w) (w1 := w') (us := C.toList.take n) (fun e => by rw [e] at hlen; simp at hlen; omega) hfresh hC hfz (by rw [hlen]; exact hn) hmx rfl (by rw [hlen])
        rw [hlen] at this
        exact this
      · refine all2_by_nth (by rw [hlen, List.length_take]; omega) fun k x v hx hv => ?_
        have hk : k < n := by
          have := (List.getElem?_eq_some_iff.1 hx).1
          rw [List.length_take] at this
          omega
        rw [List.getElem?_take, if_pos hk] at hx hv
        obtain ⟨u, hu, hxu⟩ := hat k x (by rw [nth_eq]; exact hx)
        rw [Array.getElem?_toList, hu] at hv
        cases hv
        exact hxu
  · cases hr

/-! a call of one struct that answers with a new row -/
noncomputable def newV (res : List S) (h : Heap) : V × Heap := match res with
  | [] => (.t [.s .nils, .s (.int .i64 0)], h)
  | res => (.t [.s (.sl h.next 0 res.length 1 none), .s (.int .i64 0)], h.alloc res)
noncomputable def listO (F : FuncId) (cells : List S) (res : List S) : Oracle := fun f args h _ => bif f == F then (match args with | [.g xs] => bif sameL S.eqv cells xs then some (newV res h) else none | _ => none) else none
/-- whoever calls it gets a new row with these -/
def Lists (P : Program) (Q : World → Prop) (F : FuncId) (us vals : List Value) : Prop :=
  ∀ w : World, Q w → Calls P F #[.agg us.toArray] w fun x w' => ∃ u, x = .returned (.tuple #[u, .int .i64 0]) ∧ NewRow w w' u vals ∧ Below w.heap.size w w'
theorem Post.new [Base] {h : Heap} {r : Ren} {B fl : Nat} {w w1 : World} (hi : Inv h r B w) (hb : Below w.heap.size w w1) {res : List S} {vals : List Value} {u : Value} (hn : NewRow w w1 u vals) (hv : All2 (VS r) res vals) :
    Post B fl h r w (newV res h).1 (newV res h).2 (.tuple #[u, .int .i64 0]) w1 := by
  cases hn with
  | none =>
    match res, hv with
    | [], _ => exact Post.below hi hb ⟨[_, _], rfl, rfl, rfl, trivial⟩
  | @row g cap C T fz us hp hg hnew hfz hn hmx hcap hus =>
    match res, hv with
    | [], hv =>
      have := hv.len
      exact absurd (List.eq_nil_of_length_eq_zero this.symm) hp
    | x :: res, hv =>
      have hl : (x :: res).length = vals.length := hv.len
      obtain ⟨h1, h2⟩ := hi.newAt (w1 := w1) (cs := x :: res) hg hb.os hb.tape hb.output hb.block hnew hfz (fun i y hy => by
        obtain ⟨u, hu, hv⟩ := All2.nth hv hy
        refine ⟨u, ?_, hv⟩
        rw [← hus, List.getElem?_take] at hu
        split at hu
        · rw [← Array.getElem?_toList]; exact hu
        · cases hu) fl
      refine ⟨_, h1, ?_, h2⟩
      refine ⟨[_, _], rfl, ?_, rfl, trivial⟩
      have := sl_new' r h.next g (x :: res).length 1 cap (by decide) (by rw [hl]; exact hn) hmx
      rw [hcap]
      rw [Nat.mul_one, hl] at this
      show VS _ (.sl h.next 0 (x :: res).length 1 none) _
      rw [hl]
      exact this
theorem sound_list [Base] {P : Program} {Q : World → Prop} {F : FuncId} (hc : Callable P F) {cells res : List S} (h1 : cells.all S.one = true) {us vals : List Value} (hus : All2 (VS r0) cells us) (hv : ∀ r, All2 (VS r) res vals) (hQ : Holds0 Q) (hl : Lists P Q F us vals) : Sound P (listO F cells res) := by
  intro f args h fl v h' e
  unfold listO at e
  cases hf : (f == F) <;> rw [hf] at e <;> simp only [cond_true, cond_false] at e
  · cases e
  obtain rfl : f = F := by simpa using hf
  split at e
  · rename_i xs
    cases hs : sameL S.eqv cells xs <;> rw [hs] at e <;> simp only [cond_true, cond_false] at e
    · cases e
    have he := sameL_eq (fun _ _ => S.eqv_ok) hs
    subst he
    have e : newV res h = (v, h') := by injection e
    refine ⟨hc, fun r B w vs hi ha => ?_⟩
    match vs, ha with
    | [a], ⟨⟨as, ha1, ha2⟩, _⟩ =>
      subst ha1
      obtain rfl := ones_same h1 ha2 hus
      refine (hl w (hQ w hi.hr.z)).mono fun x w' ⟨u, e1, e2, e3⟩ => ⟨_, e1, ?_⟩
      have := Post.new (fl := fl) hi e3 e2 (hv r)
      rw [e] at this
      exact this
  · cases e

/-! a call of one struct whose answer is a truth value behind the cells -/
noncomputable def bitO [Know] (F : FuncId) (cells : List S) (i : Nat) (mk : Bool → V) : Oracle := pureO F fun args => match args with | [.g xs] => bif sameL S.eqv cells xs then some (Option.rec .any mk (eqC i 1)) else none | _ => none
def b2i (b : Bool) : Int := bif b then 1 else 0
theorem sound_bit [Base] {P : Program} {F : FuncId} (hc : Callable P F) {cells : List S} (h1 : cells.all S.one = true) {us : List Value} (hus : All2 (VS r0) cells us) {i : Nat} {b : Bool} (hb : Base.rho i = b2i b) {mk : Bool → V} {u : Value} (hu : ∀ r, VV r (mk b) u)
    (h : Holds0 fun w => Calls P F #[.agg us.toArray] w fun e w' => e = .returned u ∧ Below w.heap.size w w') : Sound P (bitO F cells i mk) := by
  refine sound_pure hc fun args v' hg r vs ha w hw => ?_
  split at hg
  · rename_i xs
    cases hs : sameL S.eqv cells xs <;> rw [hs] at hg <;> simp only [cond_true, cond_false] at hg
    · cases hg
    · cases hg
      have e := sameL_eq (fun _ _ => S.eqv_ok) hs
      subst e
      match vs, ha with
      | [a], ⟨⟨as, ha1, ha2⟩, _⟩ =>
        subst ha1
        obtain rfl := ones_same h1 ha2 hus
        refine (h w hw).mono fun e w' ⟨e1, e2⟩ => ⟨u, e1, ?_, e2⟩
        cases hcc : eqC i 1 with
        | none => exact trivial
        | some c =>
          have hbc : c = b := by
            rw [← eqC_ok hcc, hb]
            cases b <;> decide
          rw [hbc]
          exact hu r
  · cases hg
theorem ones_T (L : Lf) : ∀ (ks : List Kd) (i : Nat), (ks.all fun k => match k with | .s => false | _ => true) = true → ((cellsT i ks).map L.nS).all S.one = true
  | [], _, _ => rfl
  | k :: ks, i, h => by
    simp only [List.all_cons, Bool.and_eq_true] at h
    have ih := ones_T L ks (i + 1) h.2
    show ((L.nS (cellT i k)).one && ((cellsT (i + 1) ks).map L.nS).all S.one) = true
    rw [ih, Bool.and_true]
    cases k with
    | s => exact absurd h.1 (by decide)
    | b =>
      show (S.ofXe _ (@anyE L.know0 ([(i, (1 : Int))].map fun p => (L.rep p.1, p.2)))).one = true
      cases @anyE L.know0 ([(i, (1 : Int))].map fun p => (L.rep p.1, p.2)) <;> rfl
    | i kd =>
      show (S.ofXi kd (L.rep i) (nth L.iv (L.rep i))).one = true
      cases nth L.iv (L.rep i) with
      | none => rfl
      | some p =>
        show S.one (bif decide (p.1 = p.2) then _ else _) = true
        cases decide (p.1 = p.2) <;> rfl
/-- cells of a part of the arguments -/
noncomputable def clL (L : Lf) (i : Nat) (ks : List Kd) : List S := (cellsT i ks).map L.nS
theorem clL_ok [Base] {L : Lf} (hL : L.Holds Base.rho Base.sig) {full : List Value} (h1 : Base.rho = rhoOf full) (h2 : Base.sig = sigOf full) {ks : List Kd} {us pre post : List Value} {n : Nat} (e : full = pre ++ (us ++ post)) (hn : pre.length = n) (hk : All2 Kd.ok ks us) : All2 (VS r0) (clL L n ks) us := by
  subst hn
  exact Lf.nSs_ok hL (cellsT_ok h1 h2 e hk)
theorem part_eq (us post : List Value) (n m : Nat) : us ++ post = us.take n ++ ((us.drop n).take m ++ ((us.drop n).drop m ++ post)) := by
  rw [← List.append_assoc ((us.drop n).take m), List.take_append_drop, ← List.append_assoc, List.take_append_drop]
end Go.Proofs.YtaamdiknefodgaaDoor.Am
