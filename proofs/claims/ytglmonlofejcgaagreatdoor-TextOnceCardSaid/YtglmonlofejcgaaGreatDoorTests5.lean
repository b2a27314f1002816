/- Statements: which are valid; Check and the reference's Check and Valid answer by that test. -/
import Derived.Test.YtglmonlofejcgaaGreatDoorTests4
set_option maxRecDepth 100000
noncomputable section
open List renaming all_eq_true → apu, all_append → apw
open Nat renaming le_trans → apv, le_max_right → apy, le_max_left → apz, blt_eq → apB
open Bool renaming and_self → apx, eq_iff_iff → apA
set_option linter.unusedVariables false
namespace Go.Proofs.YtglmonlofejcgaaGreatDoor
namespace Am
open Go.RowKit
abbrev kSt : List Kd := .i .u8 :: (kPl ++ (kRv ++ (kOp ++ [.i .i64])))
def dn : E :=
 .or (.ands [.zero [(0, 1)], dS 1, nM 4, .zero (zs 20 5), .zero [(25, 0)]])
 (.or (.ands [.or (.zero [(0, 2)]) (.zero [(0, 4)]), .zero (zs 1 3), .zero (zs 4 16), aY 20, .zero [(25, 0)]])
 (.ands [.zero [(0, 3)], .zero (zs 1 3), .zero (zs 4 16), .zero (zs 20 5), .not (.lt 25 0), .lt 25 16]))
def a3p : E :=
 .or (.ands [.zero [(0, 1)], .zero [(26, 1)], .zero [(27, 1)], .zero (zs 20 5), .zero [(25, 0)]])
 (.or (.ands [.or (.zero [(0, 2)]) (.zero [(0, 4)]), .zero (zs 1 3), .zero (zs 4 16), .zero [(28, 1)], .zero [(25, 0)]])
 (.ands [.zero [(0, 3)], .zero (zs 1 3), .zero (zs 4 16), .zero (zs 20 5), .not (.lt 25 0), .lt 25 16]))
def jC (us : List Value) : List Int := [b2i ((dS 1).val us), b2i ((nM 4).val us), b2i ((aY 20).val us)]
theorem oC (b : Bool) : decide (b2i b = 1) = b := by cases b <;> decide
theorem ajE {us : List Value} (hl : us.length = 26) : a3p.val (us ++ (jC us).map (Value.int .i64)) = dn.val us := by
 have z : ∀ l : List (Nat × Int), (l.all fun p => Nat.blt p.1 26) = true -> (E.zero l).val (us ++ (jC us).map (Value.int .i64)) = (E.zero l).val us := fun l h => by
  simp only [E.val]
  rw [apA, apu, apu]
  have key : ∀ p ∈ l, ah (us ++ (jC us).map (Value.int .i64)) p.1 = ah us p.1 := fun p hp => jE (by
   have := apu.1 h p hp
   rw [apB] at this
   omega)
  constructor <;> intro hh p hp <;> have := hh p hp
  ·rwa [key p hp] at this
  ·rwa [key p hp]
 have b : ∀ (j : Nat) (x : Bool), (jC us)[j]? = some (b2i x) -> (E.zero [(26 + j, 1)]).val (us ++ (jC us).map (Value.int .i64)) = x := fun j x h => by
  simp only [E.val, List.all_cons, List.all_nil, Bool.and_true]
  rw [kG hl]
  unfold ah
  rw [List.getElem?_map, h]
  exact oC x
 have t : ∀ i (c : Int), i < 26 -> (E.lt i c).val (us ++ (jC us).map (Value.int .i64)) = (E.lt i c).val us := fun i c h => by
  simp only [E.val]
  rw [jE (by omega)]
 have e : ∀ vs : List Value, a3p.val vs = (((E.zero [(0, 1)]).val vs && ((E.zero [(26, 1)]).val vs && ((E.zero [(27, 1)]).val vs && ((E.zero (zs 20 5)).val vs && (E.zero [(25, 0)]).val vs)))) ||
   ((((E.zero [(0, 2)]).val vs || (E.zero [(0, 4)]).val vs) && ((E.zero (zs 1 3)).val vs && ((E.zero (zs 4 16)).val vs && ((E.zero [(28, 1)]).val vs && (E.zero [(25, 0)]).val vs)))) ||
   ((E.zero [(0, 3)]).val vs && ((E.zero (zs 1 3)).val vs && ((E.zero (zs 4 16)).val vs && ((E.zero (zs 20 5)).val vs && (!(E.lt 25 0).val vs && (E.lt 25 16).val vs))))))) := fun _ => rfl
 rw [e, z [(0, 1)] (by decide), b 0 _ rfl, b 1 _ rfl, z (zs 20 5) (by decide), z [(25, 0)] (by decide), z [(0, 2)] (by decide), z [(0, 4)] (by decide), z (zs 1 3) (by decide), z (zs 4 16) (by decide), b 2 _ rfl, z [(0, 3)] (by decide), t 25 0 (by decide), t 25 16 (by decide)]
 rfl
def stB (L : Lf) : List aS := letI := L.know []
 [sV 95 (clL L 1 kPl) 26 m8, sV 127 (clL L 1 kPl) 26 m8, sV 96 (clL L 4 kRv) 27 m8, sV 128 (clL L 4 kRv) 27 m8,
  sV 97 (clL L 20 kOp) 28 m8, sV 129 (clL L 20 kOp) 28 m8, tO 95 kPl (dS 0) m8 (L.know [])]
def anW (F : FuncId) (L : Lf) : R := @runs (L.know []) (mY Tryz.prog) (nC Tryz.prog) (Jp (stB L)) 30 15 F ((a1s 0 [(true, kSt)]).map L.nA) ⟨[], 0⟩ 0
def Jq (mk : Bool -> V) (F : FuncId) (L : Lf) : Bool := Option.rec false (fun b => vY (mk b) (anW F L)) (@E.abs (L.know []) ((bV 0 kSt ++ [S.xi .i64 26, S.xi .i64 27, S.xi .i64 28]).map L.nS) a3p)
def ai6 : Lf := Lf.l9 [(true, kSt)] [] [(0, 1), (0, 1), (0, 1)]
theorem a7w {us : List Value} {n : Nat} : (dS 0).val ((us.drop n).take 3) = (dS n).val us := by
 simp only [dS, E.ands, E.val, Nat.zero_add, qm (show 0 < 3 by decide), qm (show 2 < 3 by decide), Nat.add_zero]
theorem sub_zero {us : List Value} {n m : Nat} {l : List (Nat × Int)} (h : (l.all fun p => Nat.blt p.1 m) = true) : (E.zero l).val ((us.drop n).take m) = (E.zero (l.map fun p => (n + p.1, p.2))).val us := by
 simp only [E.val, List.all_map]
 rw [apA, apu, apu]
 have key : ∀ p ∈ l, ah ((us.drop n).take m) p.1 = ah us (n + p.1) := fun p hp => qm (by
  have := apu.1 h p hp
  rw [apB] at this
  exact this)
 constructor <;> intro hh p hp <;> have := hh p hp <;> simp only [Function.comp] at this |-
 ·rwa [key p hp] at this
 ·rwa [key p hp]
def E.mv (n : Nat) : E -> E
 | .lt i c => .lt (n + i) c
 | .zero l => .zero (l.map fun p => (n + p.1, p.2))
 | .and a b => .and (a.mv n) (b.mv n)
 | .or a b => .or (a.mv n) (b.mv n)
 | .not a => .not (a.mv n)
def E.top : E -> Nat
 | .lt i _ => i + 1
 | .zero l => l.foldr (fun p m => max (p.1 + 1) m) 0
 | .and a b => max a.top b.top
 | .or a b => max a.top b.top
 | .not a => a.top
theorem a2v {m : Nat} : ∀ {l : List (Nat × Int)}, l.foldr (fun p m => max (p.1 + 1) m) 0 <= m -> (l.all fun p => Nat.blt p.1 m) = true
 | [], _ => rfl
 | p :: l, h => by
  rw [List.foldr_cons] at h
  have h1 : p.1 + 1 <= m := apv (apz ..) h
  rw [List.all_cons, a2v (apv (apy ..) h), Bool.and_true, apB]
  omega
theorem wo {us : List Value} {n m : Nat} : ∀ e : E, e.top <= m -> e.val ((us.drop n).take m) = (e.mv n).val us
 | .lt i c, h => by
  have h : i + 1 <= m := h
  simp only [E.val, E.mv]
  rw [qm (by omega)]
 | .zero l, h => sub_zero (by
  have h : l.foldr (fun p m => max (p.1 + 1) m) 0 <= m := h
  exact a2v h)
 | .and a b, h => by
  have h : max a.top b.top <= m := h
  simp only [E.val, E.mv, wo a (apv (apz ..) h), wo b (apv (apy ..) h)]
 | .or a b, h => by
  have h : max a.top b.top <= m := h
  simp only [E.val, E.mv, wo a (apv (apz ..) h), wo b (apv (apy ..) h)]
 | .not a, h => by
  have h : a.top <= m := h
  simp only [E.val, E.mv, wo a h]
theorem abH {us : List Value} {n : Nat} : (dS 0).val ((us.drop n).take 3) = (dS n).val us := a7w
theorem ang {us : List Value} : (aY 0).val ((us.drop 20).take 5) = (aY 20).val us := (wo (aY 0) (by decide)).trans rfl
theorem aoh {us : List Value} : (nM 0).val ((us.drop 4).take 16) = (nM 4).val us := (wo (nM 0) (by decide)).trans rfl
theorem a5l {us : List Value} (hk : ak Kd.ok kSt us) {L : Lf} [b0 : Base] (hK : b0.toKnow = L.know []) (h1 : Base.rho = dw (behind us [] (jC us))) (h2 : Base.sig = fG (behind us [] (jC us))) (hL : L.Holds Base.rho Base.sig) : Sound Tryz.prog (Jp (stB L)) := by
 have hlen : us.length = 26 := hk.len.symm
 have hp : ak Kd.ok kPl ((us.drop 1).take 3) := (hk.drop 1).take 3
 have hr : ak Kd.ok kRv ((us.drop 4).take 16) := (hk.drop 4).take 16
 have ho : ak Kd.ok kOp ((us.drop 20).take 5) := (hk.drop 20).take 5
 have cp : ak (VS r0) (clL L 1 kPl) ((us.drop 1).take 3) := D8 hL h1 h2 (EO us _ 1 3) (by simp [hlen]) hp
 have cr : ak (VS r0) (clL L 4 kRv) ((us.drop 4).take 16) := D8 hL h1 h2 (EO us _ 4 16) (by simp [hlen]) hr
 have co : ak (VS r0) (clL L 20 kOp) ((us.drop 20).take 5) := D8 hL h1 h2 (EO us _ 20 5) (by simp [hlen]) ho
 have r26 : Base.rho 26 = b2i ((dS 0).val ((us.drop 1).take 3)) := by
  rw [h1, abH]
  exact iy (a := 0) (j := 0) hlen rfl rfl
 have r27 : Base.rho 27 = b2i ((nM 0).val ((us.drop 4).take 16)) := by
  rw [h1, aoh]
  exact iy (a := 0) (j := 1) hlen rfl rfl
 have r28 : Base.rho 28 = b2i ((aY 0).val ((us.drop 20).take 5)) := by
  rw [h1, ang]
  exact iy (a := 0) (j := 2) hlen rfl rfl
 have key : ∀ O ∈ @List.cons aS (@sV b0.toKnow 95 (clL L 1 kPl) 26 m8) [@sV b0.toKnow 127 (clL L 1 kPl) 26 m8, @sV b0.toKnow 96 (clL L 4 kRv) 27 m8, @sV b0.toKnow 128 (clL L 4 kRv) 27 m8,
  @sV b0.toKnow 97 (clL L 20 kOp) 28 m8, @sV b0.toKnow 129 (clL L 20 kOp) 28 m8, tO 95 kPl (dS 0) m8 b0.toKnow], Sound Tryz.prog O := by
   intro O hO
   simp only [List.mem_cons, List.not_mem_nil, or_false] at hO
   rcases hO with rfl | rfl | rfl | rfl | rfl | rfl | rfl
   ·exact jV ⟨_, Tryz.func95, by kernel_rfl, by kernel_rfl⟩ (kK L kPl 1 rfl) cp r26 (fun _ => rfl) fun w _ => uj _ hp w trivial
   ·exact jV ⟨_, Tryz.func127, by kernel_rfl, by kernel_rfl⟩ (kK L kPl 1 rfl) cp r26 (fun _ => rfl) fun w _ => zX _ hp w trivial
   ·exact jV ⟨_, Tryz.func96, by kernel_rfl, by kernel_rfl⟩ (kK L kRv 4 rfl) cr r27 (fun _ => rfl) fun w _ => Rk _ hr w trivial
   ·exact jV ⟨_, Tryz.func128, by kernel_rfl, by kernel_rfl⟩ (kK L kRv 4 rfl) cr r27 (fun _ => rfl) fun w _ => TR _ hr w trivial
   ·exact jV ⟨_, Tryz.func97, by kernel_rfl, by kernel_rfl⟩ (kK L kOp 20 rfl) co r28 (fun _ => rfl) fun w _ => uK _ ho w trivial
   ·exact jV ⟨_, Tryz.func129, by kernel_rfl, by kernel_rfl⟩ (kK L kOp 20 rfl) co r28 (fun _ => rfl) fun w _ => uh _ ho w trivial
   ·exact jQ b0 ⟨_, Tryz.func95, by kernel_rfl, by kernel_rfl⟩ uj
 rw [hK] at key
 exact jL key
theorem Yx {F : FuncId} {mk : Bool -> V} {val : Bool -> Value} (hmk : ∀ (b0 : Base) r b u, @VV b0 r (mk b) u -> u = val b) {sp : Sp} (hrun : ((sp.leaves ai6).all (Jq mk F)) = true) : Tests Tryz.prog Ad F kSt dn val := by
 intro us hk w _
 have hg : Gps [(true, kSt)] [.agg us.toArray] us := ⟨us, [], (List.append_nil _).symm, ⟨hk, .inl ⟨rfl, rfl⟩⟩, rfl⟩
 have hlen : us.length = 26 := hk.len.symm
 have b01 : ∀ b : Bool, (0 : Int) <= b2i b /\ b2i b <= 1 := fun b => by cases b <;> decide
 have kk : Lens [] (dw (behind us [] (jC us))) (fG (behind us [] (jC us))) := rY (n := 26) (a := 0) hg rfl hlen rfl
 have hst : ai6.Holds (dw (behind us [] (jC us))) (fG (behind us [] (jC us))) := Lf.a6e hg (ivS := []) trivial ⟨b01 _, b01 _, b01 _, trivial⟩
 obtain ⟨L, hm, hL⟩ := sp.cover hst
 have hp := apu.1 hrun L hm
 letI b0 : Base := uJ default (Lf.ok hL kk)
 have ha : ak (VA r0) (a1s 0 [(true, kSt)]) [.agg us.toArray] := yS (pre := []) (cs' := us) (cs := behind us [] (jC us)) rfl rfl ((jC us).map (Value.int .i64)) rfl hg
 have hc : ak (VS r0) ((bV 0 kSt ++ [S.xi .i64 26, S.xi .i64 27, S.xi .i64 28]).map L.nS) (us ++ (jC us).map (Value.int .i64)) := by
  refine Lf.Ov hL ((kL (cs := behind us [] (jC us)) (pre := []) (us := us) (post := (jC us).map (Value.int .i64)) rfl rfl rfl hk).app ?_)
  refine ⟨?_, ?_, ?_, trivial⟩
  ·exact congrArg (Value.int .i64) (iy (a := 0) (j := 0) (ints := jC us) (strs := []) hlen rfl rfl).symm
  ·exact congrArg (Value.int .i64) (iy (a := 0) (j := 1) (ints := jC us) (strs := []) hlen rfl rfl).symm
  ·exact congrArg (Value.int .i64) (iy (a := 0) (j := 2) (ints := jC us) (strs := []) hlen rfl rfl).symm
 unfold Jq at hp
 cases hb : @E.abs (L.know []) ((bV 0 kSt ++ [S.xi .i64 26, S.xi .i64 27, S.xi .i64 28]).map L.nS) a3p with
 | none => rw [hb] at hp; cases hp
 | some b =>
  rw [hb] at hp
  obtain ⟨h', hr⟩ := zD hp
  have hbv := E.qA hc hb
  rw [ajE hlen] at hbv
  refine (iC w (Nat.zero_le _) (fun _ h => by cases h) (su (Lf.ok hL kk) (a5l hk (L := L) rfl rfl rfl hL) 30 15) (Lf.yh hL ha) hr).mono fun x w' ⟨u, r', e1, e2, e3⟩ => ⟨?_, e3⟩
  rw [e1, hmk _ _ _ _ e2, hbv]
def a2n : Lf := ai6
def al4 : Lf := (a2n.hi 0 (1 - 1))
def aef : Sp := (.conj [(1, 0), (2, 0), (3, 0), (4, 0), (5, 0), (6, 0), (7, 0), (8, 0), (9, 0), (10, 0), (11, 0), (12, 0), (13, 0), (14, 0), (15, 0), (16, 0), (17, 0), (18, 0), (19, 0), (20, 0), (21, 0), (22, 0), (23, 0), (24, 0), (25, 0)] .leaf .leaf)
def XO : Lf := (a2n.lo 0 1)
def akJ : Lf := (XO.hi 0 (2 - 1))
def a95 : Sp := (.cut 27 1 (.cut 26 1 (.conj [(20, 0), (21, 0), (22, 0), (23, 0), (24, 0), (25, 0)] .leaf .leaf) (.conj [(20, 0), (21, 0), (22, 0), (23, 0), (24, 0), (25, 0)] .leaf .leaf)) (.cut 26 1 (.conj [(20, 0), (21, 0), (22, 0), (23, 0), (24, 0), (25, 0)] .leaf .leaf) (.conj [(20, 0), (21, 0), (22, 0), (23, 0), (24, 0), (25, 0)] .leaf (.conj [(20, 0), (21, 0), (22, 0), (23, 0), (24, 0)] (.cut 25 0 .leaf (.cut 25 1 .leaf .leaf)) .leaf))))
def WW : Lf := (XO.lo 0 2)
def alk : Lf := (WW.hi 0 (3 - 1))
def acA : Sp := (.conj [(1, 0), (2, 0), (3, 0), (4, 0), (5, 0), (6, 0), (7, 0), (8, 0), (9, 0), (10, 0), (11, 0), (12, 0), (13, 0), (14, 0), (15, 0), (16, 0), (17, 0), (18, 0), (19, 0), (25, 0)] (.cut 28 1 .leaf .leaf) (.conj [(1, 0), (2, 0), (3, 0)] (.conj [(4, 0), (5, 0), (6, 0), (7, 0), (8, 0), (9, 0), (10, 0), (11, 0), (12, 0), (13, 0), (14, 0), (15, 0), (16, 0), (17, 0), (18, 0), (19, 0), (25, 0)] (.cut 28 1 .leaf .leaf) (.conj [(4, 0), (5, 0), (6, 0), (7, 0), (8, 0), (9, 0), (10, 0), (11, 0), (12, 0), (13, 0), (14, 0), (15, 0), (16, 0), (17, 0), (18, 0), (19, 0)] (.cut 25 0 .leaf (.cut 25 1 (.cut 28 1 .leaf .leaf) .leaf)) .leaf)) .leaf))
def akZ : Lf := (WW.lo 0 3)
def ah9 : Sp := (.cut 0 4 (.cut 25 0 (.conj [(1, 0), (2, 0), (3, 0), (4, 0), (5, 0), (6, 0), (7, 0), (8, 0), (9, 0), (10, 0), (11, 0), (12, 0), (13, 0), (14, 0), (15, 0), (16, 0), (17, 0), (18, 0), (19, 0), (20, 0), (21, 0), (22, 0), (23, 0), (24, 0)] .leaf .leaf) (.cut 25 16 (.conj [(1, 0), (2, 0), (3, 0), (4, 0), (5, 0), (6, 0), (7, 0), (8, 0), (9, 0), (10, 0), (11, 0), (12, 0), (13, 0), (14, 0), (15, 0), (16, 0), (17, 0), (18, 0), (19, 0), (20, 0), (21, 0), (22, 0), (23, 0), (24, 0)] .leaf (.conj [(1, 0), (2, 0), (3, 0)] (.conj [(4, 0), (5, 0), (6, 0), (7, 0), (8, 0), (9, 0), (10, 0), (11, 0), (12, 0), (13, 0), (14, 0), (15, 0), (16, 0), (17, 0), (18, 0), (19, 0), (20, 0), (21, 0), (22, 0), (23, 0), (24, 0)] .leaf (.conj [(4, 0), (5, 0), (6, 0), (7, 0), (8, 0), (9, 0), (10, 0), (11, 0), (12, 0), (13, 0), (14, 0), (15, 0), (16, 0), (17, 0), (18, 0), (19, 0)] (.conj [(20, 0), (21, 0), (22, 0), (23, 0), (24, 0)] .leaf .leaf) .leaf)) .leaf)) (.conj [(1, 0), (2, 0), (3, 0), (4, 0), (5, 0), (6, 0), (7, 0), (8, 0), (9, 0), (10, 0), (11, 0), (12, 0), (13, 0), (14, 0), (15, 0), (16, 0), (17, 0), (18, 0), (19, 0), (20, 0), (21, 0), (22, 0), (23, 0), (24, 0)] .leaf .leaf))) (.cut 0 5 (.conj [(1, 0), (2, 0), (3, 0), (4, 0), (5, 0), (6, 0), (7, 0), (8, 0), (9, 0), (10, 0), (11, 0), (12, 0), (13, 0), (14, 0), (15, 0), (16, 0), (17, 0), (18, 0), (19, 0), (25, 0)] (.cut 28 1 .leaf .leaf) (.conj [(1, 0), (2, 0), (3, 0)] (.conj [(4, 0), (5, 0), (6, 0), (7, 0), (8, 0), (9, 0), (10, 0), (11, 0), (12, 0), (13, 0), (14, 0), (15, 0), (16, 0), (17, 0), (18, 0), (19, 0), (25, 0)] (.cut 28 1 .leaf .leaf) (.conj [(4, 0), (5, 0), (6, 0), (7, 0), (8, 0), (9, 0), (10, 0), (11, 0), (12, 0), (13, 0), (14, 0), (15, 0), (16, 0), (17, 0), (18, 0), (19, 0)] (.cut 25 0 .leaf (.cut 25 1 (.cut 28 1 .leaf .leaf) .leaf)) .leaf)) .leaf)) (.conj [(1, 0), (2, 0), (3, 0), (4, 0), (5, 0), (6, 0), (7, 0), (8, 0), (9, 0), (10, 0), (11, 0), (12, 0), (13, 0), (14, 0), (15, 0), (16, 0), (17, 0), (18, 0), (19, 0), (20, 0), (21, 0), (22, 0), (23, 0), (24, 0), (25, 0)] .leaf .leaf)))
def a3J : Sp := .cut 0 3 acA ah9
def a1U : Sp := .cut 0 2 a95 a3J
def a8Y : Sp := .cut 0 1 aef a1U
theorem aoK : (aef.leaves al4).all (Jq m8 57) = true := by kernel_rfl
theorem ap8 : (a95.leaves akJ).all (Jq m8 57) = true := by kernel_rfl
theorem aoS : (acA.leaves alk).all (Jq m8 57) = true := by kernel_rfl
theorem aoA : (ah9.leaves akZ).all (Jq m8 57) = true := by kernel_rfl
theorem apq : (a3J.leaves WW).all (Jq m8 57) = true := by
 have e : a3J.leaves WW = acA.leaves alk ++ ah9.leaves akZ := rfl
 rw [e]
 simp only [apw, aoS, aoA, apx]
theorem apo : (a1U.leaves XO).all (Jq m8 57) = true := by
 have e : a1U.leaves XO = a95.leaves akJ ++ a3J.leaves WW := rfl
 rw [e]
 simp only [apw, ap8, apq, apx]
theorem aoG : (a8Y.leaves a2n).all (Jq m8 57) = true := by
 have e : a8Y.leaves a2n = aef.leaves al4 ++ a1U.leaves XO := rfl
 rw [e]
 simp only [apw, aoK, apo, apx]
theorem RX : Tests Tryz.prog Ad 57 kSt dn v8 := Yx I5 (sp := a8Y) aoG
def a2d : Lf := ai6
def akM : Lf := (a2d.hi 0 (1 - 1))
def a8Q : Sp := .leaf
def al9 : Lf := (a2d.lo 0 1)
def agY : Sp := (.cut 0 2 (.cut 26 1 .leaf (.cut 27 1 .leaf (.conj [(20, 0), (21, 0), (22, 0), (23, 0), (24, 0)] (.cut 25 0 .leaf (.cut 25 1 .leaf .leaf)) .leaf))) (.cut 0 3 (.conj [(1, 0), (2, 0), (3, 0)] (.conj [(4, 0), (5, 0), (6, 0), (7, 0), (8, 0), (9, 0), (10, 0), (11, 0), (12, 0), (13, 0), (14, 0), (15, 0), (16, 0), (17, 0), (18, 0), (19, 0)] (.cut 28 1 .leaf (.cut 25 0 .leaf (.cut 25 1 .leaf .leaf))) .leaf) .leaf) (.cut 0 4 (.conj [(1, 0), (2, 0), (3, 0)] (.conj [(4, 0), (5, 0), (6, 0), (7, 0), (8, 0), (9, 0), (10, 0), (11, 0), (12, 0), (13, 0), (14, 0), (15, 0), (16, 0), (17, 0), (18, 0), (19, 0)] (.conj [(20, 0), (21, 0), (22, 0), (23, 0), (24, 0)] (.cut 25 0 .leaf (.cut 25 16 .leaf .leaf)) .leaf) .leaf) .leaf) (.cut 0 5 (.conj [(1, 0), (2, 0), (3, 0)] (.conj [(4, 0), (5, 0), (6, 0), (7, 0), (8, 0), (9, 0), (10, 0), (11, 0), (12, 0), (13, 0), (14, 0), (15, 0), (16, 0), (17, 0), (18, 0), (19, 0)] (.cut 28 1 .leaf (.cut 25 0 .leaf (.cut 25 1 .leaf .leaf))) .leaf) .leaf) .leaf))))
def a9n : Sp := .cut 0 1 a8Q agY
theorem apk : (a8Q.leaves akM).all (Jq mB 105) = true := by kernel_rfl
theorem aoW : (agY.leaves al9).all (Jq mB 105) = true := by kernel_rfl
theorem aph : (a9n.leaves a2d).all (Jq mB 105) = true := by
 have e : a9n.leaves a2d = a8Q.leaves akM ++ agY.leaves al9 := rfl
 rw [e]
 simp only [apw, apk, aoW, apx]
theorem Ro : Tests Tryz.prog Ad 105 kSt dn .bool := Yx afl (sp := a9n) aph
def ag8 (K : Know) : aS := fun f a h fl => orR (ZI K f a h fl) (orR (tO 57 kSt dn m8 K f a h fl) (tO 105 kSt dn mB K f a h fl))
theorem Uf (b : Base) : @Sound b Tryz.prog (ag8 b.toKnow) := @dZ b _ _ _ (EK b) (@dZ b _ _ _ (jQ b ⟨_, Tryz.func57, by kernel_rfl, by kernel_rfl⟩ RX) (Y4 b ⟨_, Tryz.func105, by kernel_rfl, by kernel_rfl⟩ Ro))
end Am
end Go.Proofs.YtglmonlofejcgaaGreatDoor
