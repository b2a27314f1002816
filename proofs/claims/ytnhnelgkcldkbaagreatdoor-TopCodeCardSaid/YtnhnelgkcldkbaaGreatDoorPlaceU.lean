/- Texts of places that are not written out: place.Text, and the reference's Written, as oracles of the machine. -/
import Derived.Test.YtnhnelgkcldkbaaGreatDoorLb
import Derived.Test.YtnhnelgkcldkbaaGreatDoorAmC
namespace Go.Proofs.YtnhnelgkcldkbaaGreatDoor.Am
open Go.RowKit
set_option linter.unusedSectionVars false

/-- the text of a place -/
def placeT (l : Int) (d : Bool) (f : Int) : List UInt8 := (bif d then [42] else []) ++ (120 :: decT l) ++ (if f = 1 then [46, 49] else if f = 2 then [46, 50] else [])
def triples : List (Nat × Bool × Nat) := (List.range 16).flatMap fun l => [false, true].flatMap fun d => (List.range 3).map fun f => (l, d, f)
theorem triples_mem : ∀ (l : Nat) (d : Bool) (f : Nat), l < 16 → f < 3 → (l, d, f) ∈ triples := fun l d f hl hf => by
  simp only [triples, List.mem_flatMap, List.mem_map, List.mem_range]
  exact ⟨l, hl, d, by cases d <;> simp, f, hf, rfl⟩
noncomputable abbrev runP (f : FuncId) (t : Nat × Bool × Nat) : R := @runs Know.nought (tyOf Tryz.prog) (fnOf Tryz.prog) numO 10 10 f [.g [.int .i64 t.1, .bool t.2.1, .int .u8 t.2.2]] ⟨[], 0⟩ 0
noncomputable def placeRuns (t : Nat × Bool × Nat) : Bool :=
  sayV (.t [.s (.str (placeT t.1 t.2.1 t.2.2)), .s (.int .i64 0)]) (runP 23 t) &&
  true && Nat.ble (placeT t.1 t.2.1 t.2.2).length 21
theorem place_runs : triples.all placeRuns = true := by kernel_rfl
theorem sayV_some {v : V} {r : R} (h : sayV v r = true) : ∃ h', r = some (v, h') := by
  cases r with
  | none => cases h
  | some p =>
    obtain ⟨v', h'⟩ := p
    have h : V.same v' v = true := h
    letI : Base := Base.known Know.nought (KnowOk.nought (fun _ => 0) (fun _ => [])) 0 default
    rw [V.same_ok h]
    exact ⟨h', rfl⟩
structure InP (l f : Int) : Prop where
  l0 : 0 ≤ l
  l1 : l ≤ 15
  f0 : 0 ≤ f
  f1 : f ≤ 2
theorem placeRuns_at {l f : Int} (h : InP l f) (d : Bool) : placeRuns (l.toNat, d, f.toNat) = true := by
  have := h.l0; have := h.l1; have := h.f0; have := h.f1
  exact List.all_eq_true.1 place_runs _ (triples_mem _ _ _ (by omega) (by omega))
theorem InP.toNat {l f : Int} (h : InP l f) : ((l.toNat : Nat) : Int) = l ∧ ((f.toNat : Nat) : Int) = f := by
  have := h.l0; have := h.f0
  omega
theorem placeT_len {l f : Int} (h : InP l f) (d : Bool) : (placeT l d f).length ≤ 21 := by
  have h1 := placeRuns_at h d
  obtain ⟨e1, e2⟩ := h.toNat
  unfold placeRuns at h1
  simp only [Bool.and_eq_true, e1, e2] at h1
  exact Nat.le_of_ble_eq_true h1.2

/-! a place argument's cells: its local, star and field -/
abbrev Pl := Nat × Nat × Nat
def plT (p : Pl) : List S := [.xi .i64 p.1, .xe [(p.2.1, 1)], .xi .u8 p.2.2]
noncomputable def okPl (L : Lf) (p : Pl) : Bool := Option.rec false (fun a => Option.rec false (fun b => decide (0 ≤ a.1) && decide (a.2 ≤ 15) && decide (0 ≤ b.1) && decide (b.2 ≤ 2)) (nth L.iv (L.rep p.2.2))) (nth L.iv (L.rep p.1))
noncomputable def findPl (L : Lf) (cells : List S) : Nat → List Pl → Option Nat
  | _, [] => none
  | j, p :: r => bif sameL S.eqv ((plT p).map L.nS) cells && okPl L p then some (256 + j) else findPl L cells (j + 1) r
noncomputable def plG (L : Lf) (n : Nat) (pls : List Pl) (mk : Nat → V) (args : List A) : Option V := match args with
  | [.g cells] => ob (findPl L cells n pls) fun h => some (mk h)
  | _ => none
/-- the strings behind the cells are the places' texts -/
def PlE (n : Nat) (pls : List Pl) (rho : Nat → Int) (sig : Nat → List UInt8) : Prop := ∀ j p, pls[j]? = some p → InP (rho p.1) (rho p.2.2) → sig (n + j) = placeT (rho p.1) (decide (rho p.2.1 = 1)) (rho p.2.2)
theorem findPl_ok {L : Lf} {cells : List S} : ∀ {pls : List Pl} {n h : Nat}, findPl L cells n pls = some h → ∃ j p, pls[j]? = some p ∧ h = 256 + (n + j) ∧ (plT p).map L.nS = cells ∧ okPl L p = true
  | [], _, _, e => by cases e
  | p :: r, n, h, e => by
    have e : (bif sameL S.eqv ((plT p).map L.nS) cells && okPl L p then some (256 + n) else findPl L cells (n + 1) r) = some h := e
    cases hc : (sameL S.eqv ((plT p).map L.nS) cells && okPl L p) <;> rw [hc] at e <;> simp only [cond_true, cond_false] at e
    · obtain ⟨j, q, h1, h2, h3⟩ := findPl_ok e
      exact ⟨j + 1, q, by simpa using h1, by omega, h3⟩
    · cases e
      simp only [Bool.and_eq_true] at hc
      letI : Base := Base.known Know.nought (KnowOk.nought (fun _ => 0) (fun _ => [])) 0 default
      exact ⟨0, p, rfl, rfl, sameL_eq (fun _ _ => S.eqv_ok) hc.1, hc.2⟩
section
variable [Base] {L : Lf}
/-- a cell's value is one alone -/
def S.sc (x : S) : Bool := match x with | .bool _ | .int .. | .xi .. | .xe _ | .xs _ | .str _ => true | _ => false
theorem VS.only {r : Ren} {x : S} (h : x.sc = true) {v v' : Value} (k : VS r x v) (k' : VS r x v') : v = v' := by
  cases x <;> simp [S.sc] at h <;> exact k.trans k'.symm
theorem sc_xi (kd : IntKind) (i : Nat) : (L.nS (.xi kd i)).sc = true := by
  show (S.ofXi kd (L.rep i) (nth L.iv (L.rep i))).sc = true
  cases nth L.iv (L.rep i) with
  | none => rfl
  | some p =>
    show S.sc (bif decide (p.1 = p.2) then _ else _) = true
    cases decide (p.1 = p.2) <;> rfl
theorem sc_xe (l : List (Nat × Int)) : (L.nS (.xe l)).sc = true := by
  show (S.ofXe _ (@anyE L.know0 (l.map fun p => (L.rep p.1, p.2)))).sc = true
  cases @anyE L.know0 (l.map fun p => (L.rep p.1, p.2)) <;> rfl
theorem pl_vals {r : Ren} (h : L.Holds Base.rho Base.sig) {p : Pl} {us : List Value} (hu : All2 (VS r) ((plT p).map L.nS) us) :
    us = [.int .i64 (Base.rho p.1), .bool (decide (Base.rho p.2.1 = 1)), .int .u8 (Base.rho p.2.2)] := by
  match us, hu with
  | [a, b, c], ⟨h1, h2, h3, _⟩ =>
    have e1 := VS.only (sc_xi _ _) h1 (Lf.nS_ok h (show VS r (.xi .i64 p.1) (.int .i64 (Base.rho p.1)) from rfl))
    have e2 := VS.only (sc_xe _) h2 (Lf.nS_ok h (show VS r (.xe [(p.2.1, 1)]) (.bool (decide (Base.rho p.2.1 = 1))) by show _ = _; simp))
    have e3 := VS.only (sc_xi _ _) h3 (Lf.nS_ok h (show VS r (.xi .u8 p.2.2) (.int .u8 (Base.rho p.2.2)) from rfl))
    rw [e1, e2, e3]
theorem okPl_in (h : L.Holds Base.rho Base.sig) {p : Pl} (hp : okPl L p = true) : InP (Base.rho p.1) (Base.rho p.2.2) := by
  unfold okPl at hp
  cases ha : nth L.iv (L.rep p.1) with
  | none => rw [ha] at hp; cases hp
  | some a =>
    cases hb : nth L.iv (L.rep p.2.2) with
    | none => rw [ha, hb] at hp; cases hp
    | some b =>
      simp only [ha, hb, Bool.and_eq_true, decide_eq_true_eq] at hp
      have h1 := h.iv _ _ ha
      have h2 := h.iv _ _ hb
      rw [Lf.rep_ok h] at h1 h2
      exact ⟨by omega, by omega, by omega, by omega⟩
end
/-- a call at a place that is written out -/
theorem place_call {w0 w : World} (k : TabOk w0) (hw : ∀ b, b < 3 → w.heap[b]? = w0.heap[b]?) {l f : Int} (h : InP l f) (d : Bool) {F : FuncId} {v : V} (hv : sayV v (runP F (l.toNat, d, f.toNat)) = true) :
    Calls Tryz.prog F #[.agg #[.int .i64 l, .bool d, .int .u8 f]] w fun e w' => ∃ u, e = .returned u ∧ (∃ r', @VV (base0 w0 (KnowOk.nought (fun _ => 0) (fun _ => []))) r' v u) ∧ Below w.heap.size w w' := by
  obtain ⟨h', hr⟩ := sayV_some hv
  obtain ⟨e1, e2⟩ := h.toNat
  letI b0 : Base := base0 w0 (KnowOk.nought (fun _ => 0) (fun _ => []))
  have hsz : 3 ≤ w.heap.size := by
    have hs := k.size
    have h3 : w0.heap[2]? = some w0.heap[2] := Array.getElem?_eq_getElem (by omega)
    have := (Array.getElem?_eq_some_iff.1 ((hw 2 (by decide)).trans h3)).1
    omega
  refine (calls_flat w hsz hw (sound_runs (KnowOk.nought (fun _ => 0) (fun _ => [])) (sound_num (KnowOk.nought (fun _ => 0) (fun _ => [])) k) 10 10) (vs := [.agg #[.int .i64 l, .bool d, .int .u8 f]]) ?_ hr).mono fun e w' ⟨u, r', k1, k2, k3⟩ => ⟨u, k1, ⟨r', k2⟩, k3⟩
  refine ⟨⟨[.int .i64 l, .bool d, .int .u8 f], rfl, ?_, rfl, ?_, trivial⟩, trivial⟩
  · show Value.int .i64 l = .int .i64 ((l.toNat : Nat) : Int)
    rw [e1]
  · show Value.int .u8 f = .int .u8 ((f.toNat : Nat) : Int)
    rw [e2]
section
variable {w0 : World} {K : Know} {rho : Nat → Int} {sig : Nat → List UInt8} (ok : KnowOk K rho sig)
noncomputable def plO (L : Lf) (n : Nat) (pls : List Pl) : Oracle := fun f a h fl =>
  pureO 23 (plG L n pls fun h => .t [.s (.xs [h]), .s (.int .i64 0)]) f a h fl
theorem sound_plG {L : Lf} (hL : L.Holds rho sig) {n : Nat} {pls : List Pl} (hE : PlE n pls rho sig) (k : TabOk w0) {F : FuncId} (hF : Callable Tryz.prog F) {mk : Nat → V} (at' : List UInt8 → V)
    (hrun : ∀ l d f, InP l f → sayV (at' (placeT l d f)) (runP F (l.toNat, d, f.toNat)) = true)
    (hmk : ∀ r r' h t u, strX sig [h] = t → @VV (base0 w0 (KnowOk.nought (fun _ => 0) (fun _ => []))) r' (at' t) u → @VV (base0 w0 ok) r (mk h) u) : @Sound (base0 w0 ok) Tryz.prog (pureO F (plG L n pls mk)) := by
  letI : Base := base0 w0 ok
  refine sound_pure hF fun args v hg r vs ha w hw => ?_
  unfold plG at hg
  split at hg
  · rename_i cells
    obtain ⟨u, rfl, hu⟩ := all2_one ha
    obtain ⟨us, rfl, hu⟩ := hu
    obtain ⟨q, hq, hg⟩ := ob_some hg
    cases hg
    obtain ⟨j, p, hj, rfl, rfl, hp⟩ := findPl_ok hq
    obtain rfl := pl_vals hL hu
    have hin := okPl_in hL hp
    refine (place_call k hw hin _ (hrun _ _ _ hin)).mono fun e w' ⟨u, e1, ⟨r', e2⟩, e3⟩ => ⟨u, e1, hmk r r' _ _ u ?_ e2, e3⟩
    rw [strX_one]
    exact hE j p hj hin
  · cases hg
theorem sound_pl {L : Lf} (hL : L.Holds rho sig) {n : Nat} {pls : List Pl} (hE : PlE n pls rho sig) (k : TabOk w0) : @Sound (base0 w0 ok) Tryz.prog (plO L n pls) := by
  have hT : ∀ r r' h t u, strX sig [h] = t → @VV (base0 w0 (KnowOk.nought (fun _ => 0) (fun _ => []))) r' (.t [.s (.str t), .s (.int .i64 0)]) u → @VV (base0 w0 ok) r (.t [.s (.xs [h]), .s (.int .i64 0)]) u := by
    intro r r' h t u ht hu
    obtain ⟨us, rfl, hu⟩ := hu
    refine ⟨us, rfl, ?_⟩
    match us, hu with
    | [a, b], ⟨h1, h2, _⟩ => exact ⟨by subst ht; exact h1, h2, trivial⟩
  have hA : ∀ r r' h t u, strX sig [h] = t → @VV (base0 w0 (KnowOk.nought (fun _ => 0) (fun _ => []))) r' (.a (.s (.str t))) u → @VV (base0 w0 ok) r (.a (.s (.xs [h]))) u := by
    intro r r' h t u ht hu
    subst ht
    exact hu
  have hr := fun l d f (h : InP l f) => placeRuns_at h d
  simp only [placeRuns, Bool.and_eq_true] at hr
  have e0 := fun l f (h : InP l f) => (h.toNat).1
  have e1 := fun l f (h : InP l f) => (h.toNat).2
  refine sound_plG ok hL hE k ⟨_, Tryz.func23, by kernel_rfl, by kernel_rfl⟩ (fun t => .t [.s (.str t), .s (.int .i64 0)]) (fun l d f h => ?_) hT
  · have := (hr l d f h).1.1
    simp only [e0 l f h, e1 l f h] at this
    exact this
end
/-- the places' texts, out of the cells -/
noncomputable def plX (cs : List Value) (pls : List Pl) : List (List UInt8) := pls.map fun p =>
  bif decide (0 ≤ rhoOf cs p.1) && decide (rhoOf cs p.1 ≤ 15) && decide (0 ≤ rhoOf cs p.2.2) && decide (rhoOf cs p.2.2 ≤ 2) then placeT (rhoOf cs p.1) (decide (rhoOf cs p.2.1 = 1)) (rhoOf cs p.2.2) else []
theorem plX_len (cs : List Value) (pls : List Pl) : ∀ x, x ∈ plX cs pls → x.length ≤ 21 := fun x hx => by
  simp only [plX, List.mem_map] at hx
  obtain ⟨p, _, rfl⟩ := hx
  cases hc : (decide (0 ≤ rhoOf cs p.1) && decide (rhoOf cs p.1 ≤ 15) && decide (0 ≤ rhoOf cs p.2.2) && decide (rhoOf cs p.2.2 ≤ 2)) with
  | false => simp
  | true =>
    simp only [Bool.and_eq_true, decide_eq_true_eq] at hc
    exact placeT_len ⟨hc.1.1.1, hc.1.1.2, hc.1.2, hc.2⟩ _
theorem plX_E {cs : List Value} {pls : List Pl} (hp : pls.all (fun p => decide (p.1 < cs.length) && decide (p.2.1 < cs.length) && decide (p.2.2 < cs.length)) = true) : PlE cs.length pls (rhoOf (withX cs (plX cs pls))) (sigOf (withX cs (plX cs pls))) := by
  intro j p hj hin
  have hm := List.all_eq_true.1 hp p (List.mem_of_getElem? hj)
  simp only [Bool.and_eq_true, decide_eq_true_eq] at hm
  obtain ⟨⟨h1, h2⟩, h3⟩ := hm
  rw [rho_withX h1, rho_withX h3] at hin
  rw [rho_withX h1, rho_withX h2, rho_withX h3]
  refine sig_X ?_
  rw [plX, List.getElem?_map, hj]
  simp only [Option.map_some, Option.some.injEq]
  rw [show (decide (0 ≤ rhoOf cs p.1) && decide (rhoOf cs p.1 ≤ 15) && decide (0 ≤ rhoOf cs p.2.2) && decide (rhoOf cs p.2.2 ≤ 2)) = true by
    simp only [Bool.and_eq_true, decide_eq_true_eq]; exact ⟨⟨⟨hin.l0, hin.l1⟩, hin.f0⟩, hin.f1⟩]
  rfl
end Go.Proofs.YtnhnelgkcldkbaaGreatDoor.Am
