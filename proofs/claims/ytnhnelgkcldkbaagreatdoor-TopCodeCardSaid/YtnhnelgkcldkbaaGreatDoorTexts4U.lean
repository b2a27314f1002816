/- Texts of operands and rvalues, out of their cells; functions of one struct that answer with a text. -/
import Derived.Test.YtnhnelgkcldkbaaGreatDoorTextVU
import Derived.Test.YtnhnelgkcldkbaaGreatDoorTests4
import Derived.Test.YtnhnelgkcldkbaaGreatDoorOrcU
namespace Go.Proofs.YtnhnelgkcldkbaaGreatDoor.Am
open Go.RowKit
set_option linter.unusedSectionVars false
set_option linter.unusedVariables false

def opdAt (us : List Value) (o : Nat) : Opd := ⟨cellI us o, cellI us (o + 1), cellI us (o + 2), decide (cellI us (o + 3) = 1), cellI us (o + 4)⟩
def rvAt (us : List Value) (o : Nat) : Rv := ⟨cellI us o, opdAt us (o + 3), opdAt us (o + 8), cellI us (o + 1), cellI us (o + 2), cellI us (o + 13), decide (cellI us (o + 14) = 1), cellI us (o + 15)⟩
theorem pl_val {us : List Value} {o : Nat} (h : (okPlE o).val us = true) (h0 : 0 ≤ cellI us (o + 2)) : InP (cellI us o) (cellI us (o + 2)) := by
  simp only [okPlE, E.ands, E.val, Bool.and_eq_true, Bool.not_eq_true', decide_eq_true_eq, decide_eq_false_iff_not] at h
  exact ⟨by omega, by omega, h0, by omega⟩
theorem zs_val {us : List Value} {o n : Nat} (h : (E.zero (zs o n)).val us = true) : ∀ i, i < n → cellI us (o + i) = 0 := by
  intro i hi
  simp only [E.val, zs, List.all_map, List.all_eq_true, List.mem_range, Function.comp, decide_eq_true_eq] at h
  exact h i hi
theorem one_val {us : List Value} {i : Nat} {c : Int} (h : (E.zero [(i, c)]).val us = true) : cellI us i = c := by
  simpa [E.val] using h
theorem op_val {us : List Value} {o : Nat} (h : (okOpE o).val us = true) (hn : I64 (cellI us (o + 1))) (h0 : 0 ≤ cellI us (o + 4)) : (opdAt us o).Ok := by
  have h : ((E.zero [(o, 1)]).val us && (E.zero (zs (o + 2) 3)).val us || ((E.zero [(o, 2)]).val us || (E.zero [(o, 3)]).val us) && ((E.zero [(o + 1, 0)]).val us && (okPlE (o + 2)).val us)) = true := h
  simp only [Bool.or_eq_true, Bool.and_eq_true] at h
  rcases h with ⟨h1, h2⟩ | ⟨h1, h2, h3⟩
  · have z := zs_val h2
    have z0 := z 0 (by decide)
    have z1 := z 1 (by decide)
    have z2 := z 2 (by decide)
    refine .inl ⟨one_val h1, hn, z0, ?_, z2⟩
    show decide (cellI us (o + 3) = 1) = false
    rw [show o + 3 = o + 2 + 1 by omega, z1]
    rfl
  · refine .inr ⟨?_, one_val h2, pl_val h3 h0⟩
    rcases h1 with h1 | h1
    · exact .inl (one_val h1)
    · exact .inr (one_val h1)
theorem no_val {us : List Value} {o : Nat} (h : (E.zero (zs o 5)).val us = true) : opdAt us o = Opd.no := by
  have z := zs_val h
  unfold opdAt
  rw [z 1 (by decide), z 2 (by decide), z 3 (by decide), z 4 (by decide), show cellI us o = 0 from z 0 (by decide)]
  rfl
/-- the cells' ranges, as far as texts ask -/
structure RvR (us : List Value) (o : Nat) : Prop where
  n : I64 (cellI us (o + 4))
  m : I64 (cellI us (o + 9))
  f : 0 ≤ cellI us (o + 7)
  g : 0 ≤ cellI us (o + 12)
  p : 0 ≤ cellI us (o + 15)
theorem rv_val {us : List Value} {o : Nat} (h : (okRvE o).val us = true) (k : RvR us o) : (rvAt us o).Ok := by
  have hA : (okOpE (o + 3)).val us = true → (opdAt us (o + 3)).Ok := fun h => op_val h k.n k.f
  have hB : (okOpE (o + 8)).val us = true → (opdAt us (o + 8)).Ok := fun h => op_val h k.m k.g
  have hP : (okPlE (o + 13)).val us = true → InP (cellI us (o + 13)) (cellI us (o + 15)) := fun h => pl_val h k.p
  have bare : (E.zero (zs (o + 13) 3)).val us = true → cellI us (o + 13) = 0 ∧ decide (cellI us (o + 14) = 1) = false ∧ cellI us (o + 15) = 0 := fun h => by
    have z := zs_val h
    refine ⟨z 0 (by decide), ?_, z 2 (by decide)⟩
    rw [show o + 14 = o + 13 + 1 by omega, z 1 (by decide)]
    rfl
  simp only [okRvE, E.ands] at h
  rw [E.val, Bool.or_eq_true] at h
  rcases h with h | h
  · simp only [E.val, Bool.and_eq_true] at h
    obtain ⟨h1, h2, h3, h4, h5, h6⟩ := h
    obtain ⟨b1, b2, b3⟩ := bare h4
    exact .inl ⟨one_val h1, hA h2, no_val h3, one_val h5, one_val h6, b1, b2, b3⟩
  rw [E.val, Bool.or_eq_true] at h
  rcases h with h | h
  · simp only [E.val, Bool.and_eq_true, Bool.not_eq_true', decide_eq_true_eq, decide_eq_false_iff_not] at h
    obtain ⟨h1, h2, h3, h4, h5, h6, h7⟩ := h
    obtain ⟨b1, b2, b3⟩ := bare h4
    exact .inr (.inl ⟨one_val h1, hA h2, hB h3, ⟨by show 1 ≤ cellI us (o + 1); omega, by show cellI us (o + 1) ≤ 6; omega⟩, one_val h7, b1, b2, b3⟩)
  rw [E.val, Bool.or_eq_true] at h
  rcases h with h | h
  · simp only [E.val, Bool.and_eq_true] at h
    obtain ⟨h1, h2, h3, h4, h5, h6⟩ := h
    obtain ⟨b1, b2, b3⟩ := bare h4
    exact .inr (.inr (.inl ⟨one_val h1, hA h2, hB h3, one_val h5, one_val h6, b1, b2, b3⟩))
  rw [E.val, Bool.or_eq_true] at h
  rcases h with h | h
  · simp only [E.val, Bool.and_eq_true, Bool.not_eq_true', decide_eq_true_eq, decide_eq_false_iff_not] at h
    obtain ⟨h1, h2, h3, h4, h5, h6, h7⟩ := h
    exact .inr (.inr (.inr (.inl ⟨one_val h1, no_val h2, no_val h3, one_val h5, ⟨by show 1 ≤ cellI us (o + 2); omega, by show cellI us (o + 2) ≤ 3; omega⟩, hP h4⟩)))
  · simp only [E.val, Bool.and_eq_true] at h
    obtain ⟨h1, h2, h3, h4, h5, h6⟩ := h
    exact .inr (.inr (.inr (.inr ⟨one_val h1, no_val h2, no_val h3, one_val h5, one_val h6, hP h4⟩)))

/-! texts of cells that are not written out -/
noncomputable def plcX (ks : List Kd) (pls : List Pl) (L : Lf) (xs : List S) (o : Nat) : Option (List Nat) :=
  ob (nth xs o) fun x => ob (nth xs (o + 1)) fun y => ob (nth xs (o + 2)) fun z => ob (findPl L [x, y, z] ks.length pls) fun h => some [h]
noncomputable def kindX (x : S) : Option Int := match x with | .int _ n => some n | _ => none
section
variable [Base] {r : Ren} {L : Lf} {ks : List Kd} {pls : List Pl} {xs : List S} {us : List Value}
theorem kindX_ok {x : S} {k : Int} (h : kindX x = some k) {v : Value} (hv : VS r x v) : codeI v = k := by
  unfold kindX at h
  split at h
  · cases h; cases hv; rfl
  · cases h
theorem cellX (ha : All2 (VS r) xs us) {i : Nat} {x : S} (h : nth xs i = some x) : ∃ v, us[i]? = some v ∧ VS r x v ∧ cellI us i = codeI v := by
  obtain ⟨v, hv, hx⟩ := All2.nth ha h
  exact ⟨v, hv, hx, cellI_at hv⟩
theorem plcX_ok (hL : L.Holds Base.rho Base.sig) (e : PlE ks.length pls Base.rho Base.sig) (ha : All2 (VS r) xs us) {o : Nat} {l : List Nat} (h : plcX ks pls L xs o = some l) :
    strX Base.sig l = placeT (cellI us o) (decide (cellI us (o + 1) = 1)) (cellI us (o + 2)) := by
  obtain ⟨x, hx, h⟩ := ob_some h
  obtain ⟨y, hy, h⟩ := ob_some h
  obtain ⟨z, hz, h⟩ := ob_some h
  obtain ⟨n, hn, h⟩ := ob_some h
  cases h
  obtain ⟨u1, k1, v1, c1⟩ := cellX ha hx
  obtain ⟨u2, k2, v2, c2⟩ := cellX ha hy
  obtain ⟨u3, k3, v3, c3⟩ := cellX ha hz
  obtain ⟨j, p, hj, rfl, hp, hok⟩ := findPl_ok hn
  have hv : All2 (VS r) ((plT p).map L.nS) [u1, u2, u3] := by
    rw [hp]
    exact ⟨v1, v2, v3, trivial⟩
  have hu := pl_vals hL hv
  simp only [List.cons.injEq, and_true] at hu
  obtain ⟨e1, e2, e3⟩ := hu
  rw [strX_one, e j p hj (okPl_in hL hok), c1, c2, c3, e1, e2, e3]
  simp only [codeI]
  congr 1
  cases hd : decide (Base.rho p.2.1 = 1) <;> rfl
theorem ofXs_ok {l : List Nat} {u : Value} (h : VS r (S.ofXs l) u) : u = .string ⟨(strX Base.sig l).toArray⟩ := by
  unfold S.ofXs at h
  cases hp : l.all (fun n => Nat.blt n 256) with
  | false => rw [hp] at h; exact h
  | true =>
    rw [hp] at h
    have h : u = .string ⟨(l.map UInt8.ofNat).toArray⟩ := h
    rw [strX_plain _ hp]
    exact h
end

/-! functions of one struct that answer with a text -/
def Texts (P : Program) (Q : World → Prop) (F : FuncId) (ks : List Kd) (e : E) (T : List Value → List UInt8) (val : List UInt8 → Value) : Prop :=
  ∀ us, All2 Kd.ok ks us → e.val us = true → ∀ w : World, Q w → Calls P F #[.agg us.toArray] w fun x w' => x = .returned (val (T us)) ∧ Below w.heap.size w w'
def vS2 (l : List UInt8) : Value := .tuple #[.string ⟨l.toArray⟩, .int .i64 0]
def mS2 (x : S) : V := .t [.s x, .s (.int .i64 0)]
theorem mS2_ok (b0 : Base) (r : Ren) (l : List Nat) (u : Value) (h : @VV b0 r (mS2 (S.ofXs l)) u) : u = vS2 (strX b0.sig l) := by
  obtain ⟨us, rfl, h⟩ := h
  match us, h with
  | [x, y], ⟨h1, h2, _⟩ =>
    rw [@ofXs_ok b0 r l x h1, show y = .int .i64 0 from h2]
    rfl
noncomputable def textAt (e : E) (ks : List Kd) (mk : S → V) (exp : Option (List Nat)) (L : Lf) (r : R) : Bool :=
  Option.rec false (fun b => bif b then Option.rec false (fun l => sayV (mk (S.ofXs l)) r) exp else true) (@E.abs (L.know (strsT 0 ks)) ((cellsT 0 ks).map L.nS) e)
noncomputable def cellsL (ks : List Kd) (L : Lf) : List S := (cellsT 0 ks).map L.nS
section
variable {F : FuncId} {ks : List Kd} {e : E} {T : List Value → List UInt8} {val : List UInt8 → Value} {pls : List Pl}
noncomputable def libT (ks : List Kd) (pls : List Pl) (L : Lf) : Oracle := fun f a h fl => orR (valid4 (L.know (strsT 0 ks)) f a h fl) (orcX L ks pls noO f a h fl)
noncomputable def runT (F : FuncId) (ks : List Kd) (pls : List Pl) (L : Lf) : R := @runs (L.know (strsT 0 ks)) (tyOf Tryz.prog) (fnOf Tryz.prog) (libT ks pls L) 30 15 F [.g (cellsL ks L)] ⟨[], 0⟩ 0
theorem texts_of {mk : S → V} (hmk : ∀ (b0 : Base) r l u, @VV b0 r (mk (S.ofXs l)) u → u = val (strX b0.sig l)) (exp : Lf → List S → Option (List Nat))
    (hexp : ∀ (b0 : Base) (L : Lf) (r : Ren) (xs : List S) (us : List Value) (l : List Nat), L.Holds b0.rho b0.sig → Dec ks b0.rho b0.sig → PlE ks.length pls b0.rho b0.sig → @All2 _ _ (@VS b0 r) xs us → exp L xs = some l → strX b0.sig l = T us)
    (hpl : pls.all (fun p => decide (p.1 < ks.length) && decide (p.2.1 < ks.length) && decide (p.2.2 < ks.length)) = true) {sp : Sp}
    (hrun : ((sp.leaves (Lf.startX [(true, ks)] pls.length)).all fun L => textAt e ks mk (exp L (cellsL ks L)) L (runT F ks pls L)) = true) : Texts Tryz.prog TabOk F ks e T val := by
  intro us hk he w hw
  have hg : Gps [(true, ks)] [.agg us.toArray] us := ⟨us, [], (List.append_nil _).symm, ⟨hk, .inl ⟨rfl, rfl⟩⟩, rfl⟩
  have hks : kindsT [(true, ks)] = ks := by simp [kindsT]
  have hlen : us.length = ks.length := by have := hk.len; omega
  have kk := lens_withX hg (plX_len us pls)
  have d := dec_withX hg (plX us pls)
  have ee : PlE ks.length pls (rhoOf (withX us (plX us pls))) (sigOf (withX us (plX us pls))) := by
    rw [← hlen]
    exact plX_E (by rw [hlen]; exact hpl)
  rw [hks] at kk d
  have hl : (plX us pls).length = pls.length := by simp [plX]
  have hst := Lf.startX_ok hg (plX_len us pls)
  rw [hl] at hst
  obtain ⟨L, hm, hL⟩ := sp.cover hst
  have hp := List.all_eq_true.1 hrun L hm
  letI b0 : Base := base0 w (Lf.ok hL kk)
  have ha' : All2 (VA r0) [.g (cellsT 0 ks)] [.agg us.toArray] :=
    argsT_ok (cs := withX us (plX us pls)) rfl rfl ((plX us pls).map fun x => .string ⟨x.toArray⟩) (gs := [(true, ks)]) (pre := []) (cs' := us) rfl hg
  have ha := Lf.nAs_ok hL ha'
  unfold textAt at hp
  cases hb : @E.abs (L.know (strsT 0 ks)) ((cellsT 0 ks).map L.nS) e with
  | none => rw [hb] at hp; cases hp
  | some b =>
    rw [hb] at hp
    have ha2 := ha
    obtain ⟨⟨us', e1, hus⟩, _⟩ := ha2
    have e1 : Value.agg us.toArray = .agg us'.toArray := e1
    obtain rfl : us = us' := by simpa using e1
    have hbv := E.abs_ok hus hb
    rw [he] at hbv
    subst hbv
    have hp : (Option.rec false (fun l => sayV (mk (S.ofXs l)) (runT F ks pls L)) (exp L (cellsL ks L)) : Bool) = true := hp
    cases hx : exp L (cellsL ks L) with
    | none => rw [hx] at hp; cases hp
    | some l =>
      rw [hx] at hp
      obtain ⟨h', hr⟩ := sayV_is hp
      have hS : Sound Tryz.prog (@runs (L.know (strsT 0 ks)) (tyOf Tryz.prog) (fnOf Tryz.prog) (libT ks pls L) 30 15) :=
        @sound_runs w _ _ _ (Lf.ok hL kk) _ (@sound_or (base0 w (Lf.ok hL kk)) _ _ _ (sound_valid4 (base0 w (Lf.ok hL kk))) (sound_orcX hL kk d ee hw (sound_no _))) 30 15
      refine (calls_flat w hw.size (fun _ _ => rfl) hS ha hr).mono fun x w' ⟨u, r', e1, e2, e3⟩ => ⟨?_, e3⟩
      rw [e1, hmk b0 _ _ _ e2, hexp b0 L r0 _ _ _ hL d ee hus hx]
end
end Go.Proofs.YtnhnelgkcldkbaaGreatDoor.Am
