/- PlaceTexts: its answer at any arguments: true. -/
import Derived.Test.YtncbkjokabgkbaaDoorReadO
import Derived.Test.YtncbkjokabgkbaaDoorAlive03
namespace Go.Proofs.YtncbkjokabgkbaaDoor.placeTexts
open Go.RowKit Go.Proofs.YtncbkjokabgkbaaDoor.Am
set_option linter.unusedVariables false
set_option linter.unusedSectionVars false
set_option linter.unusedSimpArgs false
set_option maxRecDepth 100000
theorem placeT_inj {l f l' f' : Int} {d d' : Bool} (h : InP l f) (h' : InP l' f') (e : placeT l d f = placeT l' d' f') : l = l' ∧ d = d' ∧ f = f' := by
  have a1 := h.l0; have a2 := h.l1; have a3 := h.f0; have a4 := h.f1
  have b1 := h'.l0; have b2 := h'.l1; have b3 := h'.f0; have b4 := h'.f1
  obtain ⟨e1, e2⟩ := h.toNat
  obtain ⟨e3, e4⟩ := h'.toNat
  have h1 := own_all _ (triples_mem l.toNat d f.toNat (by omega) (by omega))
  have h2 := own_all _ (triples_mem l'.toNat d' f'.toNat (by omega) (by omega))
  unfold ownAt at h1 h2
  simp only [e1, e2, e3, e4, e] at h1 h2
  obtain ⟨x1, r1⟩ := sayV_some h1
  obtain ⟨x2, r2⟩ := sayV_some h2
  have e5 := r1.symm.trans r2
  simp only [Option.some.injEq, Prod.mk.injEq, readV, V.t.injEq, List.cons.injEq, A.g.injEq, S.int.injEq, S.bool.injEq, e1, e2, e3, e4, true_and, and_true] at e5
  exact ⟨e5.1.1, e5.1.2.1, e5.1.2.2⟩
def gs : List Gp := [(true, [.i .i64, .b, .i .u8]), (true, [.i .i64, .b, .i .u8]), (false, [.s])]
def pls : List Pl := [(0, (1, 2)), (3, (4, 5)), (7, (8, 9))]
def argsP : List A := [.g (plT (0, (1, 2))), .g (plT (3, (4, 5))), .s (.xs [262])]
abbrev i64I' : Int × Int := (-9223372036854775808, 9223372036854775807)
def iv6 : List (Int × Int) := [i64I', (0, 1), (0, 255), i64I', (0, 1), (0, 255)]
/-- a text that is a place -/
def L1 : Lf := ⟨iv6 ++ [(0, 100), (0, 15), (0, 1), (0, 2), (0, 0), (0, 21), (0, 21), (0, 21)], [], [], List.range 14, [(6, [269])], [], []⟩
/-- a text that is none -/
def L2 : Lf := ⟨iv6 ++ [(0, 100), (0, 0), (0, 0), (0, 0), (12, 12), (0, 21), (0, 21), (0, 21)], [], [], List.range 14, [], [], []⟩
/-- a long text -/
def L3 : Lf := ⟨iv6 ++ [(101, 9223372036854775807)], [], [], List.range 7, [], [], []⟩
def spB : Sp := (.eqs 0 3 (.eqs 2 5 .leaf .leaf) (.eqs 2 5 .leaf .leaf))
def spQ : Sp := (.cut 3 0 .leaf (.cut 3 16 (.cut 5 3 (.cut 1 1 (.cut 4 1 spB spB) (.cut 4 1 spB spB)) .leaf) .leaf))
def sp : Sp := (.cut 0 0 .leaf (.cut 0 16 (.cut 2 3 spQ .leaf) .leaf))
noncomputable def apart (L : Lf) : Bool := hasPair L.ne 0 3 || hasPair L.ne 2 5 || Option.rec false (fun a => Option.rec false (fun b => decide (a.2 < b.1) || decide (b.2 < a.1)) (nth L.iv 4)) (nth L.iv 1)
/-- different places: different texts -/
noncomputable def plus (L : Lf) : Lf := bif apart L && (okPl L (0, (1, 2)) && okPl L (3, (4, 5))) then { L with sn := (11, [268]) :: L.sn } else L
noncomputable def rowP (L : Lf) (p : Pl) (h : Nat) : List DRow := bif okPl L p then [(h, (plT p).map L.nS, .int .i64 0)] else []
noncomputable def T (h : Nat) (L : Lf) : List DRow := (h, (plT (7, (8, 9))).map L.nS, L.nS (.xi .i64 10)) :: (rowP L (0, (1, 2)) 11 ++ rowP L (3, (4, 5)) 12)
noncomputable def orc (h : Nat) (L : Lf) : Oracle := fun f a hp fl => orR (alive03O f a hp fl) (orR (readO (T h L) f a hp fl) (plO L 11 pls f a hp fl))
noncomputable def good (h : Nat) (L : Lf) : Bool := tells true (@runs (L.know [6, 13]) (tyOf Tryd.prog) (fnOf Tryd.prog) (orc h L) 20 15 8 (argsP.map L.nA) ⟨[], 0⟩ 0)
theorem run1 : ((sp.leaves L1).all fun L => good 13 (plus L)) = true := by kernel_rfl
theorem run2 : ((sp.leaves L2).all fun L => good 6 (plus L)) = true := by kernel_rfl
theorem run3 : good 13 L3 = true := by kernel_rfl
def ptx (l : Int) (d : Bool) (f : Int) : List UInt8 := bif decide (0 ≤ l) && decide (l ≤ 15) && (decide (0 ≤ f) && decide (f ≤ 2)) then placeT l d f else []
section
variable (l1 : Int) (d1 : Bool) (f1 : Int) (l2 : Int) (d2 : Bool) (f2 : Int) (s : List UInt8) (l : Int) (d : Bool) (f e : Int)
def rho : Nat → Int
  | 0 => l1
  | 1 => boolI d1
  | 2 => f1
  | 3 => l2
  | 4 => boolI d2
  | 5 => f2
  | 6 => s.length
  | 7 => l
  | 8 => boolI d
  | 9 => f
  | 10 => e
  | 13 => (ptx l d f).length
  | _ => 0
def sig : Nat → List UInt8
  | 6 => s
  | 11 => ptx l1 d1 f1
  | 12 => ptx l2 d2 f2
  | 13 => ptx l d f
  | _ => []
end
theorem ptx_in {l f : Int} (h : InP l f) (d : Bool) : ptx l d f = placeT l d f := by
  unfold ptx
  rw [show (decide (0 ≤ l) && decide (l ≤ 15) && (decide (0 ≤ f) && decide (f ≤ 2))) = true by simp [h.l0, h.l1, h.f0, h.f1]]
  rfl
theorem ptx_len (l : Int) (d : Bool) (f : Int) : (ptx l d f).length ≤ 21 := by
  unfold ptx
  cases hc : (decide (0 ≤ l) && decide (l ≤ 15) && (decide (0 ≤ f) && decide (f ≤ 2)))
  · simp
  · simp only [Bool.and_eq_true, decide_eq_true_eq] at hc
    exact placeT_len ⟨hc.1.1, hc.1.2, hc.2.1, hc.2.2⟩ d
section
variable {l1 : Int} {d1 : Bool} {f1 : Int} {l2 : Int} {d2 : Bool} {f2 : Int} {s : List UInt8} {l : Int} {d : Bool} {f e : Int}
theorem lens : Lens [6, 13] (rho l1 d1 f1 l2 d2 f2 s l d f e) (sig l1 d1 f1 l2 d2 f2 s l d f) where
  all i hi := by
    match i with
    | 6 => exact absurd (by decide) hi
    | 11 => exact ptx_len _ _ _
    | 12 => exact ptx_len _ _ _
    | 13 => exact absurd (by decide) hi
    | 0 | 1 | 2 | 3 | 4 | 5 | 7 | 8 | 9 | 10 => exact Nat.zero_le _
    | n + 14 => exact Nat.zero_le _
  ss i hi := by
    simp only [List.mem_cons, List.not_mem_nil, or_false] at hi
    rcases hi with rfl | rfl <;> rfl
theorem plE : PlE 11 pls (rho l1 d1 f1 l2 d2 f2 s l d f e) (sig l1 d1 f1 l2 d2 f2 s l d f) := by
  intro j p hj hin
  match j with
  | 0 =>
    cases hj
    have hin : InP l1 f1 := hin
    show ptx l1 d1 f1 = placeT l1 (decide (boolI d1 = 1)) f1
    rw [boolI_eq]
    exact ptx_in hin _
  | 1 =>
    cases hj
    have hin : InP l2 f2 := hin
    show ptx l2 d2 f2 = placeT l2 (decide (boolI d2 = 1)) f2
    rw [boolI_eq]
    exact ptx_in hin _
  | 2 =>
    cases hj
    have hin : InP l f := hin
    show ptx l d f = placeT l (decide (boolI d = 1)) f
    rw [boolI_eq]
    exact ptx_in hin _
  | n + 3 => cases hj
theorem in_of {L : Lf} {w0 : World} (hL : L.Holds (rho l1 d1 f1 l2 d2 f2 s l d f e) (sig l1 d1 f1 l2 d2 f2 s l d f)) {p : Pl} (hp : okPl L p = true) : InP ((rho l1 d1 f1 l2 d2 f2 s l d f e) p.1) ((rho l1 d1 f1 l2 d2 f2 s l d f e) p.2.2) :=
  @okPl_in (base0 w0 (Lf.ok hL lens)) L hL p hp
theorem plus_ok {L : Lf} (hL : L.Holds (rho l1 d1 f1 l2 d2 f2 s l d f e) (sig l1 d1 f1 l2 d2 f2 s l d f)) : (plus L).Holds (rho l1 d1 f1 l2 d2 f2 s l d f e) (sig l1 d1 f1 l2 d2 f2 s l d f) := by
  unfold plus
  cases hc : (apart L && (okPl L (0, (1, 2)) && okPl L (3, (4, 5))))
  · exact hL
  · simp only [Bool.and_eq_true] at hc
    obtain ⟨ha, hp, hq⟩ := hc
    have ip : InP l1 f1 := in_of (w0 := default) hL hp
    have iq : InP l2 f2 := in_of (w0 := default) hL hq
    refine ⟨hL.iv, hL.ne, hL.lt, hL.to, hL.st, fun i m hm => ?_, hL.cf⟩
    rcases List.mem_cons.1 hm with hm | hm
    · cases hm
      rw [show (268 : Nat) = 256 + 12 from rfl, strX_one]
      show ptx l1 d1 f1 ≠ ptx l2 d2 f2
      rw [ptx_in ip, ptx_in iq]
      intro hh
      obtain ⟨x1, x2, x3⟩ := placeT_inj ip iq hh
      unfold apart at ha
      simp only [Bool.or_eq_true] at ha
      rcases ha with (ha | ha) | ha
      · exact hL.ne _ _ (hasPair_mem ha) x1
      · exact hL.ne _ _ (hasPair_mem ha) x3
      · cases ha1 : nth L.iv 1 with
        | none => rw [ha1] at ha; cases ha
        | some a =>
          cases ha4 : nth L.iv 4 with
          | none => rw [ha1, ha4] at ha; cases ha
          | some b =>
            have y1 : a.1 ≤ boolI d1 ∧ boolI d1 ≤ a.2 := hL.iv _ _ ha1
            have y2 : b.1 ≤ boolI d2 ∧ boolI d2 ≤ b.2 := hL.iv _ _ ha4
            rw [ha1, ha4] at ha
            simp only [Bool.or_eq_true, decide_eq_true_eq] at ha
            rw [x2] at y1
            omega
    · exact hL.sn _ _ hm
theorem pl_vs [b : Base] {q : Ren} {p : Pl} {x : Int} {y : Bool} {z : Int} (h1 : Base.rho p.1 = x) (h2 : Base.rho p.2.1 = boolI y) (h3 : Base.rho p.2.2 = z) : All2 (VS q) (plT p) [.int .i64 x, .bool y, .int .u8 z] := by
  refine ⟨by subst h1; rfl, ?_, by subst h3; rfl, trivial⟩
  show Value.bool y = .bool ([(p.2.1, (1 : Int))].any fun r => decide (Base.rho r.1 = r.2))
  simp only [List.any_cons, List.any_nil, Bool.or_false, h2, boolI_eq]
theorem rows_ok {w0 : World} (k : TabOk w0) (he : ErrOk w0) {L : Lf} (hL : L.Holds (rho l1 d1 f1 l2 d2 f2 s l d f e) (sig l1 d1 f1 l2 d2 f2 s l d f)) {h : Nat}
    (hr : ReadsAs w0 30 ((sig l1 d1 f1 l2 d2 f2 s l d f) h) l d f e ∧ ReadsAs w0 31 ((sig l1 d1 f1 l2 d2 f2 s l d f) h) l d f e) : ∀ r ∈ T h L, @DOk (base0 w0 (Lf.ok hL lens)) w0 r := by
  letI : Base := base0 w0 (Lf.ok hL lens)
  have one : ∀ (p : Pl) (j : Nat) (y : Bool), (rho l1 d1 f1 l2 d2 f2 s l d f e) p.2.1 = boolI y → (sig l1 d1 f1 l2 d2 f2 s l d f) j = ptx ((rho l1 d1 f1 l2 d2 f2 s l d f e) p.1) y ((rho l1 d1 f1 l2 d2 f2 s l d f e) p.2.2) → ∀ r ∈ rowP L p j, DOk w0 r := by
    intro p j y hy hj r hr
    unfold rowP at hr
    cases hp : okPl L p <;> rw [hp] at hr <;> simp only [cond_true, cond_false] at hr
    · cases hr
    · obtain rfl := List.mem_singleton.1 hr
      have ip := in_of (w0 := w0) hL hp
      refine ⟨(rho l1 d1 f1 l2 d2 f2 s l d f e) p.1, y, (rho l1 d1 f1 l2 d2 f2 s l d f e) p.2.2, 0, ?_, fun q => ⟨Lf.nSs_ok hL (pl_vs rfl hy rfl), rfl⟩⟩
      show ReadsAs w0 _ ((sig l1 d1 f1 l2 d2 f2 s l d f) j) _ _ _ _ ∧ ReadsAs w0 _ ((sig l1 d1 f1 l2 d2 f2 s l d f) j) _ _ _ _
      rw [hj, ptx_in ip]
      exact read_yes k he ip y
  intro r hm
  rcases List.mem_cons.1 hm with rfl | hm
  · exact ⟨l, d, f, e, hr, fun q => ⟨Lf.nSs_ok hL (pl_vs rfl rfl rfl), Lf.nS_ok hL (show VS q (.xi .i64 10) (.int .i64 e) from rfl)⟩⟩
  · rcases List.mem_append.1 hm with hm | hm
    · exact one _ _ d1 rfl rfl r hm
    · exact one _ _ d2 rfl rfl r hm
theorem orc_ok {w0 : World} (k : TabOk w0) (he : ErrOk w0) {L : Lf} (hL : L.Holds (rho l1 d1 f1 l2 d2 f2 s l d f e) (sig l1 d1 f1 l2 d2 f2 s l d f)) {h : Nat}
    (hr : ReadsAs w0 30 ((sig l1 d1 f1 l2 d2 f2 s l d f) h) l d f e ∧ ReadsAs w0 31 ((sig l1 d1 f1 l2 d2 f2 s l d f) h) l d f e) : @Sound (base0 w0 (Lf.ok hL lens)) Tryd.prog (orc h L) :=
  @sound_or (base0 w0 (Lf.ok hL lens)) _ _ _ (sound_alive03 he _) (@sound_or (base0 w0 (Lf.ok hL lens)) _ _ _ (sound_read _ (rows_ok k he hL hr)) (sound_pl _ hL plE k))
theorem fin {w0 : World} (k : TabOk w0) (he : ErrOk w0) {L : Lf} (hL : L.Holds (rho l1 d1 f1 l2 d2 f2 s l d f e) (sig l1 d1 f1 l2 d2 f2 s l d f)) {h : Nat}
    (hr : ReadsAs w0 30 ((sig l1 d1 f1 l2 d2 f2 s l d f) h) l d f e ∧ ReadsAs w0 31 ((sig l1 d1 f1 l2 d2 f2 s l d f) h) l d f e) (hg : good h L = true) :
    Calls Tryd.prog 8 #[.agg #[.int .i64 l1, .bool d1, .int .u8 f1], .agg #[.int .i64 l2, .bool d2, .int .u8 f2], .string ⟨s.toArray⟩] w0 fun x w' => x = .returned (.bool true) ∧ Below w0.heap.size w0 w' := by
  letI : Base := base0 w0 (Lf.ok hL lens)
  refine calls_bool w0 he.size (fun _ _ => rfl) (sound_runs _ (orc_ok k he hL hr) 20 15) (vs := [.agg #[.int .i64 l1, .bool d1, .int .u8 f1], .agg #[.int .i64 l2, .bool d2, .int .u8 f2], .string ⟨s.toArray⟩]) (Lf.nAs_ok hL ?_) hg
  refine ⟨⟨_, rfl, pl_vs rfl rfl rfl⟩, ⟨_, rfl, pl_vs rfl rfl rfl⟩, ?_, trivial⟩
  show Value.string ⟨s.toArray⟩ = .string ⟨(strX (sig l1 d1 f1 l2 d2 f2 s l d f) [256 + 6]).toArray⟩
  rw [strX_one]
  rfl
/-- the six cells' intervals -/
structure In6 (l1 f1 l2 f2 : Int) : Prop where
  l1 : -9223372036854775808 ≤ l1 ∧ l1 ≤ 9223372036854775807
  f1 : 0 ≤ f1 ∧ f1 ≤ 255
  l2 : -9223372036854775808 ≤ l2 ∧ l2 ≤ 9223372036854775807
  f2 : 0 ≤ f2 ∧ f2 ≤ 255
theorem iv6_ok (h : In6 l1 f1 l2 f2) : ∀ i p, nth iv6 i = some p → p.1 ≤ (rho l1 d1 f1 l2 d2 f2 s l d f e) i ∧ (rho l1 d1 f1 l2 d2 f2 s l d f e) i ≤ p.2 := by
  intro i p hp
  rw [nth_eq] at hp
  match i with
  | 0 => cases hp; exact h.l1
  | 1 => cases hp; exact boolI_in _
  | 2 => cases hp; exact h.f1
  | 3 => cases hp; exact h.l2
  | 4 => cases hp; exact boolI_in _
  | 5 => cases hp; exact h.f2
  | n + 6 => cases hp
theorem iv_app (h : In6 l1 f1 l2 f2) {m : List (Int × Int)} (hm : ∀ i p, nth m i = some p → p.1 ≤ (rho l1 d1 f1 l2 d2 f2 s l d f e) (6 + i) ∧ (rho l1 d1 f1 l2 d2 f2 s l d f e) (6 + i) ≤ p.2) : ∀ i p, nth (iv6 ++ m) i = some p → p.1 ≤ (rho l1 d1 f1 l2 d2 f2 s l d f e) i ∧ (rho l1 d1 f1 l2 d2 f2 s l d f e) i ≤ p.2 := by
  intro i p hp
  by_cases hi : i < 6
  · refine iv6_ok h i p ?_
    rw [nth_eq, List.getElem?_append_left (by exact hi)] at hp
    rw [nth_eq]
    exact hp
  · rw [nth_eq, List.getElem?_append_right (by show 6 ≤ i; omega)] at hp
    have := hm (i - 6) p (by rw [nth_eq]; exact hp)
    rw [show 6 + (i - 6) = i by omega] at this
    exact this
theorem to_range {rho : Nat → Int} {n i j : Nat} (hh : nth (List.range n) i = some j) : rho i = rho j := by
  rw [nth_eq, List.getElem?_eq_some_iff] at hh
  obtain ⟨_, hh⟩ := hh
  simp only [List.getElem_range] at hh
  rw [hh]
end
theorem walk0 {w : World} (k : TabOk w) (he : ErrOk w) {l1 f1 l2 f2 : Int} (d1 d2 : Bool) (h6 : In6 l1 f1 l2 f2) {s : List UInt8} (hb : (s.length : Int) ≤ 9223372036854775807) :
    Calls Tryd.prog 8 #[.agg #[.int .i64 l1, .bool d1, .int .u8 f1], .agg #[.int .i64 l2, .bool d2, .int .u8 f2], .string ⟨s.toArray⟩] w fun x w' => x = .returned (.bool true) ∧ Below w.heap.size w w' := by
  by_cases hs : s.length ≤ 100
  · obtain ⟨l, d, f, e, hc, h1, h2⟩ := read_all k he s hs
    rcases hc with ⟨rfl, hp, es⟩ | ⟨rfl, rfl, rfl, rfl⟩
    · have es' : s = ptx l d f := by rw [ptx_in hp]; exact es
      have hL : L1.Holds (rho l1 d1 f1 l2 d2 f2 s l d f 0) (sig l1 d1 f1 l2 d2 f2 s l d f) := by
        refine ⟨iv_app h6 fun i p hp' => ?_, fun _ _ h => (by cases h), fun _ _ h => (by cases h), fun i j hh => to_range hh, fun i m hm => ?_, fun _ _ h => (by cases h), fun _ h => (by cases h)⟩
        · rw [nth_eq] at hp'
          match i with
          | 0 => cases hp'; show (0 : Int) ≤ (s.length : Int) ∧ (s.length : Int) ≤ 100; omega
          | 1 => cases hp'; exact ⟨hp.l0, hp.l1⟩
          | 2 => cases hp'; exact boolI_in _
          | 3 => cases hp'; exact ⟨hp.f0, hp.f1⟩
          | 4 => cases hp'; show (0 : Int) ≤ 0 ∧ (0 : Int) ≤ 0; decide
          | 5 | 6 => cases hp'; show (0 : Int) ≤ 0 ∧ (0 : Int) ≤ 21; decide
          | 7 => cases hp'; have := ptx_len l d f; show (0 : Int) ≤ ((ptx l d f).length : Int) ∧ ((ptx l d f).length : Int) ≤ 21; omega
          | n + 8 => cases hp'
        · obtain ⟨rfl, rfl⟩ : i = 6 ∧ m = [269] := by
            have hm : (i, m) ∈ [(6, [269])] := hm
            simpa using hm
          rw [show (269 : Nat) = 256 + 13 from rfl, strX_one]
          exact es'
      obtain ⟨L, hm, hL'⟩ := sp.cover hL
      refine fin k he (plus_ok hL') (h := 13) ?_ (List.all_eq_true.1 run1 L hm)
      show ReadsAs w _ (ptx l d f) _ _ _ _ ∧ ReadsAs w _ (ptx l d f) _ _ _ _
      rw [← es']
      exact ⟨h1, h2⟩
    · have hL : L2.Holds (rho l1 d1 f1 l2 d2 f2 s 0 false 0 12) (sig l1 d1 f1 l2 d2 f2 s 0 false 0) := by
        refine ⟨iv_app h6 fun i p hp' => ?_, fun _ _ h => (by cases h), fun _ _ h => (by cases h), fun i j hh => to_range hh, fun _ _ h => (by cases h), fun _ _ h => (by cases h), fun _ h => (by cases h)⟩
        rw [nth_eq] at hp'
        match i with
        | 0 => cases hp'; show (0 : Int) ≤ (s.length : Int) ∧ (s.length : Int) ≤ 100; omega
        | 1 | 2 | 3 => cases hp'; show (0 : Int) ≤ 0 ∧ (0 : Int) ≤ 0; decide
        | 4 => cases hp'; show (12 : Int) ≤ 12 ∧ (12 : Int) ≤ 12; decide
        | 5 | 6 => cases hp'; show (0 : Int) ≤ 0 ∧ (0 : Int) ≤ 21; decide
        | 7 => cases hp'; have := ptx_len 0 false 0; show (0 : Int) ≤ ((ptx 0 false 0).length : Int) ∧ ((ptx 0 false 0).length : Int) ≤ 21; omega
        | n + 8 => cases hp'
      obtain ⟨L, hm, hL'⟩ := sp.cover hL
      exact fin k he (plus_ok hL') (h := 6) ⟨h1, h2⟩ (List.all_eq_true.1 run2 L hm)
  · have hL : L3.Holds (rho l1 d1 f1 l2 d2 f2 s 0 false 0 0) (sig l1 d1 f1 l2 d2 f2 s 0 false 0) := by
      refine ⟨iv_app h6 fun i p hp' => ?_, fun _ _ h => (by cases h), fun _ _ h => (by cases h), fun i j hh => to_range hh, fun _ _ h => (by cases h), fun _ _ h => (by cases h), fun _ h => (by cases h)⟩
      rw [nth_eq] at hp'
      match i with
      | 0 => cases hp'; show (101 : Int) ≤ (s.length : Int) ∧ (s.length : Int) ≤ 9223372036854775807; omega
      | n + 1 => cases hp'
    exact fin k he hL (h := 13) (read_yes k he (l := 0) (f := 0) ⟨by decide, by decide, by decide, by decide⟩ false) run3
theorem three {g0 g1 g2 : Gp} {vs cs : List Value} (h : Gps [g0, g1, g2] vs cs) : ∃ v0 v1 v2 us0 us1 us2, vs = [v0, v1, v2] ∧ GpOk g0 v0 us0 ∧ GpOk g1 v1 us1 ∧ GpOk g2 v2 us2 := by
  match vs, h with
  | [v0, v1, v2], ⟨us0, _, _, h0, us1, _, _, h1, us2, _, _, h2, _⟩ => exact ⟨v0, v1, v2, us0, us1, us2, rfl, h0, h1, h2⟩
theorem all3 {α β : Type} {R : α → β → Prop} {a b c : α} {vs : List β} (h : All2 R [a, b, c] vs) : ∃ x y z, vs = [x, y, z] ∧ R a x ∧ R b y ∧ R c z := by
  match vs, h with
  | [x, y, z], ⟨h1, h2, h3, _⟩ => exact ⟨x, y, z, rfl, h1, h2, h3⟩
theorem all1 {α β : Type} {R : α → β → Prop} {a : α} {vs : List β} (h : All2 R [a] vs) : ∃ x, vs = [x] ∧ R a x := by
  match vs, h with
  | [x], ⟨h1, _⟩ => exact ⟨x, rfl, h1⟩
theorem walk {w : World} (k : TabOk w) (he : ErrOk w) {vs cs : List Value} (h : Gps gs vs cs) : Calls Tryd.prog 8 vs.toArray w fun e w' => e = .returned (.bool true) ∧ Below w.heap.size w w' := by
  obtain ⟨v0, v1, v2, us0, us1, us2, rfl, ⟨hu0, hv0⟩, ⟨hu1, hv1⟩, ⟨hu2, hv2⟩⟩ := three h
  obtain ⟨a0, b0, c0, rfl, hu1a, hu2a, hu3a⟩ := all3 hu0
  obtain ⟨a1, b1, c1, rfl, hu1b, hu2b, hu3b⟩ := all3 hu1
  obtain ⟨u, rfl, hu2c⟩ := all1 hu2
  obtain ⟨l1, rfl, hl1⟩ := hu1a
  obtain ⟨d1, rfl⟩ := hu2a
  obtain ⟨f1, rfl, hf1⟩ := hu3a
  obtain ⟨l2, rfl, hl2⟩ := hu1b
  obtain ⟨d2, rfl⟩ := hu2b
  obtain ⟨f2, rfl, hf2⟩ := hu3b
  obtain ⟨b, rfl, hb⟩ := hu2c
  have hv : v2 = .string b := by
    rcases hv2 with ⟨e, _⟩ | ⟨_, e⟩
    · cases e
    · simpa using e.symm
  have hv0 : v0 = .agg #[.int .i64 l1, .bool d1, .int .u8 f1] := by
    rcases hv0 with ⟨_, e⟩ | ⟨e, _⟩
    · simpa using e
    · cases e
  have hv1 : v1 = .agg #[.int .i64 l2, .bool d2, .int .u8 f2] := by
    rcases hv1 with ⟨_, e⟩ | ⟨e, _⟩
    · simpa using e
    · cases e
  subst hv hv0 hv1
  have eb : b = ⟨b.data.toList.toArray⟩ := by simp
  generalize b.data.toList = s at eb
  subst eb
  exact walk0 k he d1 d2 ⟨hl1, hf1, hl2, hf2⟩ hb
end Go.Proofs.YtncbkjokabgkbaaDoor.placeTexts
