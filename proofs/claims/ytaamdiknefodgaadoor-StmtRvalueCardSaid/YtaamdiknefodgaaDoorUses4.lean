/- What rvalues use: value.Uses answers with a list, pawnshopref04.Used with truth values. -/
import Derived.Test.YtaamdiknefodgaaDoorLists5
namespace Go.Proofs.YtaamdiknefodgaaDoor.Am
open Go.RowKit
set_option linter.unusedSectionVars false
set_option linter.unusedVariables false
/-- truth values: j is one of these -/
def areV (l : List Int) : List Value := (List.range' 0 16).map fun (j : Nat) => .bool (decide ((j : Int) ∈ l))
def hasN (q : List N) (i : Nat) : Bool := q.any fun n => match n with | .x k => Nat.beq k i | _ => false
def usedOk (q : List N) : Nat → List S → Bool
  | _, [] => true
  | j, x :: r => (match x with
      | .bool b => bif b then false else q.isEmpty
      | .xe l => l.all (fun p => decide (p.2 = (j : Int)) && hasN q p.1) && q.all (fun n => match n with | .x i => l.any fun p => Nat.beq p.1 i | _ => false)
      | _ => false) && usedOk q (j + 1) r
theorem hasN_ok {q : List N} {i : Nat} (h : hasN q i = true) : N.x i ∈ q := by
  obtain ⟨n, hn, h⟩ := List.any_eq_true.1 h
  cases n with
  | c _ => cases h
  | x k => rw [← Nat.eq_of_beq_eq_true h]; exact hn
theorem usedOk_ok [Base] {r : Ren} {q : List N} : ∀ {cells : List S} {j : Nat} {vs : List Value}, usedOk q j cells = true → All2 (VS r) cells vs → vs = (List.range' j cells.length).map fun i => .bool (decide ((i : Int) ∈ q.map NV))
  | [], _, [], _, _ => rfl
  | [], _, _ :: _, _, h => h.elim
  | _ :: _, _, [], _, h => h.elim
  | x :: cells, j, v :: vs, h, ha => by
    simp only [usedOk, Bool.and_eq_true] at h
    have ih := usedOk_ok h.2 ha.2
    rw [List.length_cons, List.range'_succ, List.map_cons, ← ih]
    congr 1
    obtain ⟨h1, _⟩ := h
    have hv := ha.1
    split at h1
    · rename_i b
      cases b
      · have hq : q = [] := by simpa using h1
        subst hq
        cases hv
        simp
      · cases h1
    · rename_i l
      simp only [Bool.and_eq_true] at h1
      obtain ⟨a1, a2⟩ := h1
      have hv : v = .bool (l.any fun p => decide (Base.rho p.1 = p.2)) := hv
      rw [hv]
      congr 1
      rw [Bool.eq_iff_iff, List.any_eq_true, decide_eq_true_eq, List.mem_map]
      constructor
      · rintro ⟨p, hp, he⟩
        have := List.all_eq_true.1 a1 p hp
        simp only [Bool.and_eq_true, decide_eq_true_eq] at this he
        exact ⟨N.x p.1, hasN_ok this.2, by show Base.rho p.1 = _; rw [he, this.1]⟩
      · rintro ⟨n, hn, he⟩
        have := List.all_eq_true.1 a2 n hn
        cases n with
        | c _ => cases this
        | x i =>
          obtain ⟨p, hp, hpi⟩ := List.any_eq_true.1 this
          have e := Nat.eq_of_beq_eq_true hpi
          have h2 := List.all_eq_true.1 a1 p hp
          simp only [Bool.and_eq_true, decide_eq_true_eq] at h2
          refine ⟨p, hp, ?_⟩
          simp only [decide_eq_true_eq]
          rw [e, h2.1]
          exact he
    · cases h1
/-- whoever calls it gets these truth values -/
def ArrE (F : FuncId) (ks : List Kd) (e : E) (T : List Value → List Int) : Prop :=
  ∀ us, All2 Kd.ok ks us → e.val us = true → ∀ w : World, TabOk w → Calls Tryd.prog F #[.agg us.toArray] w fun x w' => x = .returned (.agg (areV (T us)).toArray) ∧ Below w.heap.size w w'
noncomputable def cellsR (r : R) : Option (List S) := match r with | some (.a (.g cells), _) => bif Nat.beq cells.length 16 then some cells else none | _ => none
noncomputable def arrAt (e : E) (ks : List Kd) (exp : Option (List N)) (L : Lf) (r : R) : Bool :=
  Option.rec false (fun b => bif b then Option.rec false (fun q => Option.rec false (fun cs => usedOk q 0 cs) (cellsR r)) exp else true) (@E.abs (L.know (strsT 0 ks)) ((cellsT 0 ks).map L.nS) e)
section
variable {F : FuncId} {ks : List Kd} {e : E} {T : List Value → List Int} {pls : List Pl}
theorem arrs_of (exp : Lf → List S → Option (List N))
    (hexp : ∀ (b0 : Base) (L : Lf) (r : Ren) (xs : List S) (us : List Value) (q : List N), b0.toKnow = L.know (strsT 0 ks) → @All2 _ _ (@VS b0 r) xs us → exp L xs = some q → q.map (@NV b0) = T us)
    (hpl : pls.all (fun p => decide (p.1 < ks.length) && decide (p.2.1 < ks.length) && decide (p.2.2 < ks.length)) = true) {sp : Sp}
    (hrun : ((sp.leaves (Lf.startX [(true, ks)] pls.length)).all fun L => cyc L || arrAt e ks (exp L (cellsL ks L)) L (runL F ks pls L)) = true) : ArrE F ks e T := by
  intro us hk he w hw
  have hg : Gps [(true, ks)] [.agg us.toArray] us := ⟨us, [], (List.append_nil _).symm, ⟨hk, .inl ⟨rfl, rfl⟩⟩, rfl⟩
  have hks : kindsT [(true, ks)] = ks := by simp [kindsT]
  have hlen : us.length = ks.length := by have := hk.len; omega
  have kk := lens_withX hg (plX_len us pls)
  have d := dec_withX hg (plX us pls)
  have ee : PlE ks.length pls (rhoOf (withX us (plX us pls))) (sigOf (withX us (plX us pls))) := by
    rw [← hlen]
    exact plX_E (by rw [hlen]; exact hpl)
  rw [hks] at kk d
  have hl : (plX us pls).length = pls.length := by simp [plX]
  have hst := Lf.startX_ok hg (plX_len us pls)
  rw [hl] at hst
  obtain ⟨L, hm, hL⟩ := sp.cover hst
  have hp := List.all_eq_true.1 hrun L hm
  rw [cyc_no hL, Bool.false_or] at hp
  letI b0 : Base := base0 w (Lf.ok hL kk)
  have ha' : All2 (VA r0) [.g (cellsT 0 ks)] [.agg us.toArray] :=
    argsT_ok (cs := withX us (plX us pls)) rfl rfl ((plX us pls).map fun x => .string ⟨x.toArray⟩) (gs := [(true, ks)]) (pre := []) (cs' := us) rfl hg
  have ha := Lf.nAs_ok hL ha'
  unfold arrAt at hp
  cases hb : @E.abs (L.know (strsT 0 ks)) ((cellsT 0 ks).map L.nS) e with
  | none => rw [hb] at hp; cases hp
  | some b =>
    rw [hb] at hp
    have ha2 := ha
    obtain ⟨⟨us', e1, hus⟩, _⟩ := ha2
    have e1 : Value.agg us.toArray = .agg us'.toArray := e1
    obtain rfl : us = us' := by simpa using e1
    have hbv := E.abs_ok hus hb
    rw [he] at hbv
    subst hbv
    have hp : (Option.rec false (fun q => Option.rec false (fun cs => usedOk q 0 cs) (cellsR (runL F ks pls L))) (exp L (cellsL ks L)) : Bool) = true := hp
    cases hx : exp L (cellsL ks L) with
    | none => rw [hx] at hp; cases hp
    | some q =>
      rw [hx] at hp
      have hp : (Option.rec false (fun cs => usedOk q 0 cs) (cellsR (runL F ks pls L)) : Bool) = true := hp
      cases hr : cellsR (runL F ks pls L) with
      | none => rw [hr] at hp; cases hp
      | some cs =>
        rw [hr] at hp
        have hp : usedOk q 0 cs = true := hp
        unfold cellsR at hr
        split at hr
        · rename_i cells h' hrun'
          cases hlc : Nat.beq cells.length 16 <;> rw [hlc] at hr <;> simp only [cond_true, cond_false] at hr
          · cases hr
          cases hr
          have hS : Sound Tryd.prog (@runs (L.know (strsT 0 ks)) (tyOf Tryd.prog) (fnOf Tryd.prog) (libL ks pls L) 30 20) :=
            @sound_runs w _ _ _ (Lf.ok hL kk) _ (@sound_or (base0 w (Lf.ok hL kk)) _ _ _ (sound_valid5 (base0 w (Lf.ok hL kk))) (sound_orcX hL kk d ee hw (sound_insX _))) 30 20
          refine (calls_flat w hw.size (fun _ _ => rfl) hS ha hrun').mono fun x w' ⟨u, r', e1, e2, e3⟩ => ⟨?_, e3⟩
          obtain ⟨vs, hu, hvs⟩ := e2
          rw [e1, hu, usedOk_ok hp hvs, Nat.eq_of_beq_eq_true hlc, hexp b0 L r0 _ _ _ rfl hus hx]
          rfl
        · cases hr
end
end Go.Proofs.YtaamdiknefodgaaDoor.Am
